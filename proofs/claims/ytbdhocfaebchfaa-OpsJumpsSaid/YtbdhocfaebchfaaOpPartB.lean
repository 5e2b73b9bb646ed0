/- Contracts of the functions that the law reaches. -/
import Derived.Test.YtbdhocfaebchfaaOpPartA
import Derived.Test.YtbdhocfaebchfaaOpLAbOb
set_option linter.all false
set_option linter.unusedSimpArgs false
set_option linter.unusedVariables false
set_option linter.unnecessarySimpa false
section
/- Cursors stay in order. -/
namespace Go.Ab
open V Go.Proofs
set_option linter.unusedVariables false

/-! the cursors stay in order -/
theorem CS.Ok.uleb {s : CS} (h : s.Ok) : s.uleb.2.Ok := by
  have h7 := (seven_ok 10 s h).1
  unfold CS.uleb
  split
  · rename_i l s2 e
    rw [e] at h7
    split
    · exact h7.fail (by omega) (by omega)
    · exact h7
  · rename_i s2 e
    rw [e] at h7
    exact h7
theorem CS.uleb_b {s : CS} (h : s.Ok) : s.uleb.2.b = s.b := by
  have h7 := (seven_ok 10 s h).2.1
  unfold CS.uleb
  split
  · rename_i l s2 e
    rw [e] at h7
    split
    · rw [CS.fail_b]; exact h7
    · exact h7
  · rename_i s2 e
    rw [e] at h7
    exact h7
theorem CS.Ok.sleb {s : CS} (h : s.Ok) : s.sleb.2.Ok := by
  have h7 := (seven_ok 10 s h).1
  unfold CS.sleb
  split
  · rename_i l s2 e
    rw [e] at h7
    split
    · exact h7.fail (by omega) (by omega)
    · exact h7
  · rename_i s2 e
    rw [e] at h7
    exact h7
theorem CS.sleb_b {s : CS} (h : s.Ok) : s.sleb.2.b = s.b := by
  have h7 := (seven_ok 10 s h).2.1
  unfold CS.sleb
  split
  · rename_i l s2 e
    rw [e] at h7
    split
    · rw [CS.fail_b]; exact h7
    · exact h7
  · rename_i s2 e
    rw [e] at h7
    exact h7
theorem CS.uleb_lt {s : CS} (h : s.Ok) : s.uleb.1 < 18446744073709551616 := by
  have h7 := (seven_ok 10 s h).2.2
  unfold CS.uleb
  split
  · rename_i l s2 e
    rw [e] at h7
    obtain ⟨k1, k2, k3⟩ := h7 l rfl
    split
    · simp
    · rename_i hn
      by_cases hl : l.length = 10
      · have h1 : l.getD 9 0 ≤ 1 := by
          rcases Nat.lt_or_ge 1 (l.getD 9 0) with h | h
          · exact absurd ⟨hl, h⟩ hn
          · exact h
        have h2 : l = l.take 9 ++ [l.getD 9 0] := by
          have : l.drop 9 = [l.getD 9 0] := by
            rw [List.drop_eq_getElem_cons (by omega), List.drop_of_length_le (by omega)]
            simp [show 9 < l.length by omega]
          rw [← this, List.take_append_drop]
        have h3 := val7_append (l.take 9) [l.getD 9 0]
        rw [← h2] at h3
        have h4 := val7_lt (l.take 9) (fun x hx => k3 x (List.mem_of_mem_take hx))
        have h5 : (l.take 9).length = 9 := by simp; omega
        rw [h5] at h3 h4
        simp only [val7] at h3
        simp only
        omega
      · have h4 := val7_lt l k3
        have h5 : 128 ^ l.length ≤ 128 ^ 9 := Nat.pow_le_pow_right (by omega) (by omega)
        simp only
        omega
  · simp

theorem seven_bad {s : CS} (h : s.err ≠ 0) : ∀ k, seven k s = (none, s) := by
  intro k
  cases k with
  | zero => simp only [seven, CS.fail, if_neg h]
  | succ k => simp only [seven, CS.take, if_neg h]
theorem CS.uleb_err {s : CS} (h : s.err ≠ 0) : s.uleb = (0, s) := by rw [CS.uleb, seven_bad h]
theorem CS.sleb_err {s : CS} (h : s.err ≠ 0) : s.sleb = (0, s) := by rw [CS.sleb, seven_bad h]
theorem CS.take_err {s : CS} (h : s.err ≠ 0) (n : Nat) : s.take n = ([], s) := by rw [CS.take, if_neg h]
theorem CS.fail_err {s : CS} (h : s.err ≠ 0) (e : Int) : s.fail e = s := by rw [CS.fail, if_neg h]
theorem CS.take_len {s : CS} (n : Nat) : (s.take n).1.length ≤ s.b.length := by rw [CS.take]; split <;> (try split) <;> simp; omega
end Go.Ab
end

section
/- Package cursor, once more. -/
namespace Go.Ab
open V Go.Proofs
set_option maxHeartbeats 4000000
set_option maxRecDepth 10000
set_option linter.unusedSimpArgs false
set_option linter.unusedVariables false

section
variable {p : Nat} {s : CS} {H : Heap} {Q : A → Heap → Prop}
theorem At_spec (hp : H[p]? = some (.cells s.cur)) (h : Q (.int .i64 s.pos) H) : AC Try.prog 38 [.ptr (some (p, 0))] H Q := by
  refine AC.enter (E := env Try.prog 9 (fun _ => .copy) (fun _ => false)) env_ok Try.func38 rfl rfl rfl (by simp only [List.length_cons, List.length_nil]; exact of_decide_eq_true rfl) ?_
  ((try first | refine walk_aw env_ok (none) ?_ | refine walk_aw envR_ok (none) ?_); try simp -implicitDefEqProofs (maxSteps := 1000000) only [go_sem, ↓reduceIte, reduceCtorEq, Nat.reduceLT, Nat.reduceEqDiff, Nat.reduceBEq, Nat.reduceAdd, Nat.reduceMul, Nat.reduceSub, Nat.reduceLeDiff, Int.reduceNeg, Int.reduceLT, Int.reduceLE, Int.reduceEq, Int.reduceAdd, Int.reduceToNat, hp])
  exact .inl h

def CS.seek (s : CS) (n : Nat) : CS := if s.err = 0 then (if n > s.b.length then { s with err := 10 } else { s with pos := n }) else s
theorem cur_s1 (s : CS) (n : Nat) : s.cur.take 1 ++ [.int .i64 (n : Int)] ++ s.cur.drop 2 = ({ s with pos := n } : CS).cur := rfl

theorem Bytes_spec {n : Nat} (hn : n < 18446744073709551616) (hb : s.b.length < 140737488355328) (hs : s.Ok) (hp : H[p]? = some (.cells s.cur)) (h : Q (.sl (bA (s.take n).1) none ()) (H.set p (.cells (s.take n).2.cur))) :
    AC Try.prog 131 [.ptr (some (p, 0)), .int .u64 n] H Q := by
  have hle : (s.take n).1.length ≤ s.b.length := by rw [CS.take]; split <;> (try split) <;> simp; omega
  refine AC.enter (E := env Try.prog 15 (fun _ => .copy) (fun t => t == 4)) env_ok Try.func131 rfl rfl rfl (by simp only [List.length_cons, List.length_nil]; exact of_decide_eq_true rfl) ?_
  ((try first | refine walk_aw env_ok (none) ?_ | refine walk_aw envR_ok (none) ?_); try simp -implicitDefEqProofs (maxSteps := 1000000) only [go_sem, ↓reduceIte, reduceCtorEq, Nat.reduceLT, Nat.reduceEqDiff, Nat.reduceBEq, Nat.reduceAdd, Nat.reduceMul, Nat.reduceSub, Nat.reduceLeDiff, Int.reduceNeg, Int.reduceLT, Int.reduceLE, Int.reduceEq, Int.reduceAdd, Int.reduceToNat])
  refine next_spec hn hs hp ?_
  ((try first | refine walk_aw env_ok (none) ?_ | refine walk_aw envR_ok (none) ?_); try simp -implicitDefEqProofs (maxSteps := 1000000) only [go_sem, ↓reduceIte, reduceCtorEq, Nat.reduceLT, Nat.reduceEqDiff, Nat.reduceBEq, Nat.reduceAdd, Nat.reduceMul, Nat.reduceSub, Nat.reduceLeDiff, Int.reduceNeg, Int.reduceLT, Int.reduceLE, Int.reduceEq, Int.reduceAdd, Int.reduceToNat])
  by_cases e : ((s.take n).1.length : Int) = 0
  · ((try first | refine walk_aw env_ok (none) ?_ | refine walk_aw envR_ok (none) ?_); try simp -implicitDefEqProofs (maxSteps := 1000000) only [go_sem, ↓reduceIte, reduceCtorEq, Nat.reduceLT, Nat.reduceEqDiff, Nat.reduceBEq, Nat.reduceAdd, Nat.reduceMul, Nat.reduceSub, Nat.reduceLeDiff, Int.reduceNeg, Int.reduceLT, Int.reduceLE, Int.reduceEq, Int.reduceAdd, Int.reduceToNat, e])
    rw [show (s.take n).1 = [] from List.eq_nil_of_length_eq_zero (by omega)] at h
    exact .inl h
  · have e2 : (s.take n).1.length ≤ 140737488355328 := by omega
    ((try first | refine walk_aw env_ok (none) ?_ | refine walk_aw envR_ok (none) ?_); try simp -implicitDefEqProofs (maxSteps := 1000000) only [go_sem, ↓reduceIte, reduceCtorEq, Nat.reduceLT, Nat.reduceEqDiff, Nat.reduceBEq, Nat.reduceAdd, Nat.reduceMul, Nat.reduceSub, Nat.reduceLeDiff, Int.reduceNeg, Int.reduceLT, Int.reduceLE, Int.reduceEq, Int.reduceAdd, Int.reduceToNat, e, e2])
    exact .inl h
end
end Go.Ab
end

section
/- Package ops: the shapes of codes; numbers with their sign. -/
namespace Go.Ab
open V Go.Proofs
set_option maxHeartbeats 4000000
set_option maxRecDepth 10000
set_option linter.unusedSimpArgs false
set_option linter.unusedVariables false

/-- A code's shape. -/
def shp (c : Int) : Int :=
  if c = 3 then 2
  else if 8 ≤ c ∧ c ≤ 15 then 3 + c % 2
  else if c = 16 ∨ c = 35 ∨ c = 144 ∨ c = 147 ∨ c = 161 ∨ c = 162 then 5
  else if c = 17 ∨ (112 ≤ c ∧ c ≤ 143) ∨ c = 145 then 6
  else if c = 21 ∨ c = 148 ∨ c = 149 then 7
  else if c = 40 ∨ c = 47 then 8
  else if c = 146 then 9
  else if c = 157 then 10
  else if c = 158 ∨ c = 163 then 11
  else if c = 6 ∨ (18 ≤ c ∧ c ≤ 46) ∨ (48 ≤ c ∧ c ≤ 111) then 1
  else if c = 150 ∨ c = 151 ∨ c = 155 ∨ c = 156 ∨ c = 159 then 1
  else 0
theorem shp_range (c : Int) : 0 ≤ shp c ∧ shp c ≤ 11 := by
  unfold shp
  repeat (split; · omega)
  omega
theorem shp_code {c : Int} (h : shp c ≠ 0) : 3 ≤ c ∧ c ≤ 163 := by
  unfold shp at h
  repeat (split at h; · omega)
  exact absurd rfl h
theorem shp_plain {c : Int} (h : shp c = 3 ∨ shp c = 4) : 8 ≤ c ∧ c ≤ 15 := by
  unfold shp at h
  split at h
  · omega
  · split at h
    · assumption
    · repeat (split at h; · omega)
      omega

section
variable {H : Heap} {Q : A → Heap → Prop}
theorem Shape_spec {c : Int} (h : Q (.int .i64 (shp c)) H) : AC Try.prog 15 [.int .i64 c] H Q := by
  refine AC.enter (E := env Try.prog 123 (fun _ => .copy) (fun _ => false)) env_ok Try.func15 rfl rfl rfl (by simp only [List.length_cons, List.length_nil]; exact of_decide_eq_true rfl) ?_
  by_cases n0 : c = 3
  · have n3 : (c = 3) = True := eq_true n0
    have n8 : ¬ c = 8 := by omega
    have n9 : ¬ c = 9 := by omega
    have n10 : ¬ c = 10 := by omega
    have n11 : ¬ c = 11 := by omega
    have n12 : ¬ c = 12 := by omega
    have n13 : ¬ c = 13 := by omega
    have n14 : ¬ c = 14 := by omega
    have n15 : ¬ c = 15 := by omega
    have n16 : ¬ c = 16 := by omega
    have n35 : ¬ c = 35 := by omega
    have n144 : ¬ c = 144 := by omega
    have n147 : ¬ c = 147 := by omega
    have n161 : ¬ c = 161 := by omega
    have n162 : ¬ c = 162 := by omega
    have n17 : ¬ c = 17 := by omega
    have n145 : ¬ c = 145 := by omega
    have n21 : ¬ c = 21 := by omega
    have n148 : ¬ c = 148 := by omega
    have n149 : ¬ c = 149 := by omega
    have n40 : ¬ c = 40 := by omega
    have n47 : ¬ c = 47 := by omega
    have n146 : ¬ c = 146 := by omega
    have n157 : ¬ c = 157 := by omega
    have n158 : ¬ c = 158 := by omega
    have n163 : ¬ c = 163 := by omega
    have n6 : ¬ c = 6 := by omega
    have n150 : ¬ c = 150 := by omega
    have n151 : ¬ c = 151 := by omega
    have n155 : ¬ c = 155 := by omega
    have n156 : ¬ c = 156 := by omega
    have n159 : ¬ c = 159 := by omega
    have b0 : ¬ c ≥ 8 := by omega
    have b1 : c ≤ 15 := by omega
    have b2 : ¬ c ≥ 112 := by omega
    have b3 : c ≤ 143 := by omega
    have b4 : ¬ c ≥ 18 := by omega
    have b5 : c ≤ 46 := by omega
    have b6 : ¬ c ≥ 48 := by omega
    have b7 : c ≤ 111 := by omega
    have hs : shp c = 2 := by rw [n0]; decide
    rw [hs] at h
    ((try first | refine walk_aw env_ok (none) ?_ | refine walk_aw envR_ok (none) ?_); try simp -implicitDefEqProofs (maxSteps := 1000000) only [go_sem, ↓reduceIte, reduceCtorEq, Nat.reduceLT, Nat.reduceEqDiff, Nat.reduceBEq, Nat.reduceAdd, Nat.reduceMul, Nat.reduceSub, Nat.reduceLeDiff, Int.reduceNeg, Int.reduceLT, Int.reduceLE, Int.reduceEq, Int.reduceAdd, Int.reduceToNat, n3, n8, n9, n10, n11, n12, n13, n14, n15, n16, n35, n144, n147, n161, n162, n17, n145, n21, n148, n149, n40, n47, n146, n157, n158, n163, n6, n150, n151, n155, n156, n159, b0, b1, b2, b3, b4, b5, b6, b7])
    exact .inl h
  by_cases n0 : c = 8
  · have n3 : ¬ c = 3 := by omega
    have n8 : (c = 8) = True := eq_true n0
    have n9 : ¬ c = 9 := by omega
    have n10 : ¬ c = 10 := by omega
    have n11 : ¬ c = 11 := by omega
    have n12 : ¬ c = 12 := by omega
    have n13 : ¬ c = 13 := by omega
    have n14 : ¬ c = 14 := by omega
    have n15 : ¬ c = 15 := by omega
    have n16 : ¬ c = 16 := by omega
    have n35 : ¬ c = 35 := by omega
    have n144 : ¬ c = 144 := by omega
    have n147 : ¬ c = 147 := by omega
    have n161 : ¬ c = 161 := by omega
    have n162 : ¬ c = 162 := by omega
    have n17 : ¬ c = 17 := by omega
    have n145 : ¬ c = 145 := by omega
    have n21 : ¬ c = 21 := by omega
    have n148 : ¬ c = 148 := by omega
    have n149 : ¬ c = 149 := by omega
    have n40 : ¬ c = 40 := by omega
    have n47 : ¬ c = 47 := by omega
    have n146 : ¬ c = 146 := by omega
    have n157 : ¬ c = 157 := by omega
    have n158 : ¬ c = 158 := by omega
    have n163 : ¬ c = 163 := by omega
    have n6 : ¬ c = 6 := by omega
    have n150 : ¬ c = 150 := by omega
    have n151 : ¬ c = 151 := by omega
    have n155 : ¬ c = 155 := by omega
    have n156 : ¬ c = 156 := by omega
    have n159 : ¬ c = 159 := by omega
    have b0 : c ≥ 8 := by omega
    have b1 : c ≤ 15 := by omega
    have b2 : ¬ c ≥ 112 := by omega
    have b3 : c ≤ 143 := by omega
    have b4 : ¬ c ≥ 18 := by omega
    have b5 : c ≤ 46 := by omega
    have b6 : ¬ c ≥ 48 := by omega
    have b7 : c ≤ 111 := by omega
    have tm : c.tmod 2 = 0 := by rw [n0]; rfl
    have wr : IntKind.i64.wrap (3 + 0) = 3 := rfl
    have hs : shp c = 3 := by rw [n0]; decide
    rw [hs] at h
    ((try first | refine walk_aw env_ok (none) ?_ | refine walk_aw envR_ok (none) ?_); try simp -implicitDefEqProofs (maxSteps := 1000000) only [go_sem, ↓reduceIte, reduceCtorEq, Nat.reduceLT, Nat.reduceEqDiff, Nat.reduceBEq, Nat.reduceAdd, Nat.reduceMul, Nat.reduceSub, Nat.reduceLeDiff, Int.reduceNeg, Int.reduceLT, Int.reduceLE, Int.reduceEq, Int.reduceAdd, Int.reduceToNat, n3, n8, n9, n10, n11, n12, n13, n14, n15, n16, n35, n144, n147, n161, n162, n17, n145, n21, n148, n149, n40, n47, n146, n157, n158, n163, n6, n150, n151, n155, n156, n159, b0, b1, b2, b3, b4, b5, b6, b7, tm, wr])
    exact .inl h
  by_cases n0 : c = 9
  · have n3 : ¬ c = 3 := by omega
    have n8 : ¬ c = 8 := by omega
    have n9 : (c = 9) = True := eq_true n0
    have n10 : ¬ c = 10 := by omega
    have n11 : ¬ c = 11 := by omega
    have n12 : ¬ c = 12 := by omega
    have n13 : ¬ c = 13 := by omega
    have n14 : ¬ c = 14 := by omega
    have n15 : ¬ c = 15 := by omega
    have n16 : ¬ c = 16 := by omega
    have n35 : ¬ c = 35 := by omega
    have n144 : ¬ c = 144 := by omega
    have n147 : ¬ c = 147 := by omega
    have n161 : ¬ c = 161 := by omega
    have n162 : ¬ c = 162 := by omega
    have n17 : ¬ c = 17 := by omega
    have n145 : ¬ c = 145 := by omega
    have n21 : ¬ c = 21 := by omega
    have n148 : ¬ c = 148 := by omega
    have n149 : ¬ c = 149 := by omega
    have n40 : ¬ c = 40 := by omega
    have n47 : ¬ c = 47 := by omega
    have n146 : ¬ c = 146 := by omega
    have n157 : ¬ c = 157 := by omega
    have n158 : ¬ c = 158 := by omega
    have n163 : ¬ c = 163 := by omega
    have n6 : ¬ c = 6 := by omega
    have n150 : ¬ c = 150 := by omega
    have n151 : ¬ c = 151 := by omega
    have n155 : ¬ c = 155 := by omega
    have n156 : ¬ c = 156 := by omega
    have n159 : ¬ c = 159 := by omega
    have b0 : c ≥ 8 := by omega
    have b1 : c ≤ 15 := by omega
    have b2 : ¬ c ≥ 112 := by omega
    have b3 : c ≤ 143 := by omega
    have b4 : ¬ c ≥ 18 := by omega
    have b5 : c ≤ 46 := by omega
    have b6 : ¬ c ≥ 48 := by omega
    have b7 : c ≤ 111 := by omega
    have tm : c.tmod 2 = 1 := by rw [n0]; rfl
    have wr : IntKind.i64.wrap (3 + 1) = 4 := rfl
    have hs : shp c = 4 := by rw [n0]; decide
    rw [hs] at h
    ((try first | refine walk_aw env_ok (none) ?_ | refine walk_aw envR_ok (none) ?_); try simp -implicitDefEqProofs (maxSteps := 1000000) only [go_sem, ↓reduceIte, reduceCtorEq, Nat.reduceLT, Nat.reduceEqDiff, Nat.reduceBEq, Nat.reduceAdd, Nat.reduceMul, Nat.reduceSub, Nat.reduceLeDiff, Int.reduceNeg, Int.reduceLT, Int.reduceLE, Int.reduceEq, Int.reduceAdd, Int.reduceToNat, n3, n8, n9, n10, n11, n12, n13, n14, n15, n16, n35, n144, n147, n161, n162, n17, n145, n21, n148, n149, n40, n47, n146, n157, n158, n163, n6, n150, n151, n155, n156, n159, b0, b1, b2, b3, b4, b5, b6, b7, tm, wr])
    exact .inl h
  by_cases n0 : c = 10
  · have n3 : ¬ c = 3 := by omega
    have n8 : ¬ c = 8 := by omega
    have n9 : ¬ c = 9 := by omega
    have n10 : (c = 10) = True := eq_true n0
    have n11 : ¬ c = 11 := by omega
    have n12 : ¬ c = 12 := by omega
    have n13 : ¬ c = 13 := by omega
    have n14 : ¬ c = 14 := by omega
    have n15 : ¬ c = 15 := by omega
    have n16 : ¬ c = 16 := by omega
    have n35 : ¬ c = 35 := by omega
    have n144 : ¬ c = 144 := by omega
    have n147 : ¬ c = 147 := by omega
    have n161 : ¬ c = 161 := by omega
    have n162 : ¬ c = 162 := by omega
    have n17 : ¬ c = 17 := by omega
    have n145 : ¬ c = 145 := by omega
    have n21 : ¬ c = 21 := by omega
    have n148 : ¬ c = 148 := by omega
    have n149 : ¬ c = 149 := by omega
    have n40 : ¬ c = 40 := by omega
    have n47 : ¬ c = 47 := by omega
    have n146 : ¬ c = 146 := by omega
    have n157 : ¬ c = 157 := by omega
    have n158 : ¬ c = 158 := by omega
    have n163 : ¬ c = 163 := by omega
    have n6 : ¬ c = 6 := by omega
    have n150 : ¬ c = 150 := by omega
    have n151 : ¬ c = 151 := by omega
    have n155 : ¬ c = 155 := by omega
    have n156 : ¬ c = 156 := by omega
    have n159 : ¬ c = 159 := by omega
    have b0 : c ≥ 8 := by omega
    have b1 : c ≤ 15 := by omega
    have b2 : ¬ c ≥ 112 := by omega
    have b3 : c ≤ 143 := by omega
    have b4 : ¬ c ≥ 18 := by omega
    have b5 : c ≤ 46 := by omega
    have b6 : ¬ c ≥ 48 := by omega
    have b7 : c ≤ 111 := by omega
    have tm : c.tmod 2 = 0 := by rw [n0]; rfl
    have wr : IntKind.i64.wrap (3 + 0) = 3 := rfl
    have hs : shp c = 3 := by rw [n0]; decide
    rw [hs] at h
    ((try first | refine walk_aw env_ok (none) ?_ | refine walk_aw envR_ok (none) ?_); try simp -implicitDefEqProofs (maxSteps := 1000000) only [go_sem, ↓reduceIte, reduceCtorEq, Nat.reduceLT, Nat.reduceEqDiff, Nat.reduceBEq, Nat.reduceAdd, Nat.reduceMul, Nat.reduceSub, Nat.reduceLeDiff, Int.reduceNeg, Int.reduceLT, Int.reduceLE, Int.reduceEq, Int.reduceAdd, Int.reduceToNat, n3, n8, n9, n10, n11, n12, n13, n14, n15, n16, n35, n144, n147, n161, n162, n17, n145, n21, n148, n149, n40, n47, n146, n157, n158, n163, n6, n150, n151, n155, n156, n159, b0, b1, b2, b3, b4, b5, b6, b7, tm, wr])
    exact .inl h
  by_cases n0 : c = 11
  · have n3 : ¬ c = 3 := by omega
    have n8 : ¬ c = 8 := by omega
    have n9 : ¬ c = 9 := by omega
    have n10 : ¬ c = 10 := by omega
    have n11 : (c = 11) = True := eq_true n0
    have n12 : ¬ c = 12 := by omega
    have n13 : ¬ c = 13 := by omega
    have n14 : ¬ c = 14 := by omega
    have n15 : ¬ c = 15 := by omega
    have n16 : ¬ c = 16 := by omega
    have n35 : ¬ c = 35 := by omega
    have n144 : ¬ c = 144 := by omega
    have n147 : ¬ c = 147 := by omega
    have n161 : ¬ c = 161 := by omega
    have n162 : ¬ c = 162 := by omega
    have n17 : ¬ c = 17 := by omega
    have n145 : ¬ c = 145 := by omega
    have n21 : ¬ c = 21 := by omega
    have n148 : ¬ c = 148 := by omega
    have n149 : ¬ c = 149 := by omega
    have n40 : ¬ c = 40 := by omega
    have n47 : ¬ c = 47 := by omega
    have n146 : ¬ c = 146 := by omega
    have n157 : ¬ c = 157 := by omega
    have n158 : ¬ c = 158 := by omega
    have n163 : ¬ c = 163 := by omega
    have n6 : ¬ c = 6 := by omega
    have n150 : ¬ c = 150 := by omega
    have n151 : ¬ c = 151 := by omega
    have n155 : ¬ c = 155 := by omega
    have n156 : ¬ c = 156 := by omega
    have n159 : ¬ c = 159 := by omega
    have b0 : c ≥ 8 := by omega
    have b1 : c ≤ 15 := by omega
    have b2 : ¬ c ≥ 112 := by omega
    have b3 : c ≤ 143 := by omega
    have b4 : ¬ c ≥ 18 := by omega
    have b5 : c ≤ 46 := by omega
    have b6 : ¬ c ≥ 48 := by omega
    have b7 : c ≤ 111 := by omega
    have tm : c.tmod 2 = 1 := by rw [n0]; rfl
    have wr : IntKind.i64.wrap (3 + 1) = 4 := rfl
    have hs : shp c = 4 := by rw [n0]; decide
    rw [hs] at h
    ((try first | refine walk_aw env_ok (none) ?_ | refine walk_aw envR_ok (none) ?_); try simp -implicitDefEqProofs (maxSteps := 1000000) only [go_sem, ↓reduceIte, reduceCtorEq, Nat.reduceLT, Nat.reduceEqDiff, Nat.reduceBEq, Nat.reduceAdd, Nat.reduceMul, Nat.reduceSub, Nat.reduceLeDiff, Int.reduceNeg, Int.reduceLT, Int.reduceLE, Int.reduceEq, Int.reduceAdd, Int.reduceToNat, n3, n8, n9, n10, n11, n12, n13, n14, n15, n16, n35, n144, n147, n161, n162, n17, n145, n21, n148, n149, n40, n47, n146, n157, n158, n163, n6, n150, n151, n155, n156, n159, b0, b1, b2, b3, b4, b5, b6, b7, tm, wr])
    exact .inl h
  by_cases n0 : c = 12
  · have n3 : ¬ c = 3 := by omega
    have n8 : ¬ c = 8 := by omega
    have n9 : ¬ c = 9 := by omega
    have n10 : ¬ c = 10 := by omega
    have n11 : ¬ c = 11 := by omega
    have n12 : (c = 12) = True := eq_true n0
    have n13 : ¬ c = 13 := by omega
    have n14 : ¬ c = 14 := by omega
    have n15 : ¬ c = 15 := by omega
    have n16 : ¬ c = 16 := by omega
    have n35 : ¬ c = 35 := by omega
    have n144 : ¬ c = 144 := by omega
    have n147 : ¬ c = 147 := by omega
    have n161 : ¬ c = 161 := by omega
    have n162 : ¬ c = 162 := by omega
    have n17 : ¬ c = 17 := by omega
    have n145 : ¬ c = 145 := by omega
    have n21 : ¬ c = 21 := by omega
    have n148 : ¬ c = 148 := by omega
    have n149 : ¬ c = 149 := by omega
    have n40 : ¬ c = 40 := by omega
    have n47 : ¬ c = 47 := by omega
    have n146 : ¬ c = 146 := by omega
    have n157 : ¬ c = 157 := by omega
    have n158 : ¬ c = 158 := by omega
    have n163 : ¬ c = 163 := by omega
    have n6 : ¬ c = 6 := by omega
    have n150 : ¬ c = 150 := by omega
    have n151 : ¬ c = 151 := by omega
    have n155 : ¬ c = 155 := by omega
    have n156 : ¬ c = 156 := by omega
    have n159 : ¬ c = 159 := by omega
    have b0 : c ≥ 8 := by omega
    have b1 : c ≤ 15 := by omega
    have b2 : ¬ c ≥ 112 := by omega
    have b3 : c ≤ 143 := by omega
    have b4 : ¬ c ≥ 18 := by omega
    have b5 : c ≤ 46 := by omega
    have b6 : ¬ c ≥ 48 := by omega
    have b7 : c ≤ 111 := by omega
    have tm : c.tmod 2 = 0 := by rw [n0]; rfl
    have wr : IntKind.i64.wrap (3 + 0) = 3 := rfl
    have hs : shp c = 3 := by rw [n0]; decide
    rw [hs] at h
    ((try first | refine walk_aw env_ok (none) ?_ | refine walk_aw envR_ok (none) ?_); try simp -implicitDefEqProofs (maxSteps := 1000000) only [go_sem, ↓reduceIte, reduceCtorEq, Nat.reduceLT, Nat.reduceEqDiff, Nat.reduceBEq, Nat.reduceAdd, Nat.reduceMul, Nat.reduceSub, Nat.reduceLeDiff, Int.reduceNeg, Int.reduceLT, Int.reduceLE, Int.reduceEq, Int.reduceAdd, Int.reduceToNat, n3, n8, n9, n10, n11, n12, n13, n14, n15, n16, n35, n144, n147, n161, n162, n17, n145, n21, n148, n149, n40, n47, n146, n157, n158, n163, n6, n150, n151, n155, n156, n159, b0, b1, b2, b3, b4, b5, b6, b7, tm, wr])
    exact .inl h
  by_cases n0 : c = 13
  · have n3 : ¬ c = 3 := by omega
    have n8 : ¬ c = 8 := by omega
    have n9 : ¬ c = 9 := by omega
    have n10 : ¬ c = 10 := by omega
    have n11 : ¬ c = 11 := by omega
    have n12 : ¬ c = 12 := by omega
    have n13 : (c = 13) = True := eq_true n0
    have n14 : ¬ c = 14 := by omega
    have n15 : ¬ c = 15 := by omega
    have n16 : ¬ c = 16 := by omega
    have n35 : ¬ c = 35 := by omega
    have n144 : ¬ c = 144 := by omega
    have n147 : ¬ c = 147 := by omega
    have n161 : ¬ c = 161 := by omega
    have n162 : ¬ c = 162 := by omega
    have n17 : ¬ c = 17 := by omega
    have n145 : ¬ c = 145 := by omega
    have n21 : ¬ c = 21 := by omega
    have n148 : ¬ c = 148 := by omega
    have n149 : ¬ c = 149 := by omega
    have n40 : ¬ c = 40 := by omega
    have n47 : ¬ c = 47 := by omega
    have n146 : ¬ c = 146 := by omega
    have n157 : ¬ c = 157 := by omega
    have n158 : ¬ c = 158 := by omega
    have n163 : ¬ c = 163 := by omega
    have n6 : ¬ c = 6 := by omega
    have n150 : ¬ c = 150 := by omega
    have n151 : ¬ c = 151 := by omega
    have n155 : ¬ c = 155 := by omega
    have n156 : ¬ c = 156 := by omega
    have n159 : ¬ c = 159 := by omega
    have b0 : c ≥ 8 := by omega
    have b1 : c ≤ 15 := by omega
    have b2 : ¬ c ≥ 112 := by omega
    have b3 : c ≤ 143 := by omega
    have b4 : ¬ c ≥ 18 := by omega
    have b5 : c ≤ 46 := by omega
    have b6 : ¬ c ≥ 48 := by omega
    have b7 : c ≤ 111 := by omega
    have tm : c.tmod 2 = 1 := by rw [n0]; rfl
    have wr : IntKind.i64.wrap (3 + 1) = 4 := rfl
    have hs : shp c = 4 := by rw [n0]; decide
    rw [hs] at h
    ((try first | refine walk_aw env_ok (none) ?_ | refine walk_aw envR_ok (none) ?_); try simp -implicitDefEqProofs (maxSteps := 1000000) only [go_sem, ↓reduceIte, reduceCtorEq, Nat.reduceLT, Nat.reduceEqDiff, Nat.reduceBEq, Nat.reduceAdd, Nat.reduceMul, Nat.reduceSub, Nat.reduceLeDiff, Int.reduceNeg, Int.reduceLT, Int.reduceLE, Int.reduceEq, Int.reduceAdd, Int.reduceToNat, n3, n8, n9, n10, n11, n12, n13, n14, n15, n16, n35, n144, n147, n161, n162, n17, n145, n21, n148, n149, n40, n47, n146, n157, n158, n163, n6, n150, n151, n155, n156, n159, b0, b1, b2, b3, b4, b5, b6, b7, tm, wr])
    exact .inl h
  by_cases n0 : c = 14
  · have n3 : ¬ c = 3 := by omega
    have n8 : ¬ c = 8 := by omega
    have n9 : ¬ c = 9 := by omega
    have n10 : ¬ c = 10 := by omega
    have n11 : ¬ c = 11 := by omega
    have n12 : ¬ c = 12 := by omega
    have n13 : ¬ c = 13 := by omega
    have n14 : (c = 14) = True := eq_true n0
    have n15 : ¬ c = 15 := by omega
    have n16 : ¬ c = 16 := by omega
    have n35 : ¬ c = 35 := by omega
    have n144 : ¬ c = 144 := by omega
    have n147 : ¬ c = 147 := by omega
    have n161 : ¬ c = 161 := by omega
    have n162 : ¬ c = 162 := by omega
    have n17 : ¬ c = 17 := by omega
    have n145 : ¬ c = 145 := by omega
    have n21 : ¬ c = 21 := by omega
    have n148 : ¬ c = 148 := by omega
    have n149 : ¬ c = 149 := by omega
    have n40 : ¬ c = 40 := by omega
    have n47 : ¬ c = 47 := by omega
    have n146 : ¬ c = 146 := by omega
    have n157 : ¬ c = 157 := by omega
    have n158 : ¬ c = 158 := by omega
    have n163 : ¬ c = 163 := by omega
    have n6 : ¬ c = 6 := by omega
    have n150 : ¬ c = 150 := by omega
    have n151 : ¬ c = 151 := by omega
    have n155 : ¬ c = 155 := by omega
    have n156 : ¬ c = 156 := by omega
    have n159 : ¬ c = 159 := by omega
    have b0 : c ≥ 8 := by omega
    have b1 : c ≤ 15 := by omega
    have b2 : ¬ c ≥ 112 := by omega
    have b3 : c ≤ 143 := by omega
    have b4 : ¬ c ≥ 18 := by omega
    have b5 : c ≤ 46 := by omega
    have b6 : ¬ c ≥ 48 := by omega
    have b7 : c ≤ 111 := by omega
    have tm : c.tmod 2 = 0 := by rw [n0]; rfl
    have wr : IntKind.i64.wrap (3 + 0) = 3 := rfl
    have hs : shp c = 3 := by rw [n0]; decide
    rw [hs] at h
    ((try first | refine walk_aw env_ok (none) ?_ | refine walk_aw envR_ok (none) ?_); try simp -implicitDefEqProofs (maxSteps := 1000000) only [go_sem, ↓reduceIte, reduceCtorEq, Nat.reduceLT, Nat.reduceEqDiff, Nat.reduceBEq, Nat.reduceAdd, Nat.reduceMul, Nat.reduceSub, Nat.reduceLeDiff, Int.reduceNeg, Int.reduceLT, Int.reduceLE, Int.reduceEq, Int.reduceAdd, Int.reduceToNat, n3, n8, n9, n10, n11, n12, n13, n14, n15, n16, n35, n144, n147, n161, n162, n17, n145, n21, n148, n149, n40, n47, n146, n157, n158, n163, n6, n150, n151, n155, n156, n159, b0, b1, b2, b3, b4, b5, b6, b7, tm, wr])
    exact .inl h
  by_cases n0 : c = 15
  · have n3 : ¬ c = 3 := by omega
    have n8 : ¬ c = 8 := by omega
    have n9 : ¬ c = 9 := by omega
    have n10 : ¬ c = 10 := by omega
    have n11 : ¬ c = 11 := by omega
    have n12 : ¬ c = 12 := by omega
    have n13 : ¬ c = 13 := by omega
    have n14 : ¬ c = 14 := by omega
    have n15 : (c = 15) = True := eq_true n0
    have n16 : ¬ c = 16 := by omega
    have n35 : ¬ c = 35 := by omega
    have n144 : ¬ c = 144 := by omega
    have n147 : ¬ c = 147 := by omega
    have n161 : ¬ c = 161 := by omega
    have n162 : ¬ c = 162 := by omega
    have n17 : ¬ c = 17 := by omega
    have n145 : ¬ c = 145 := by omega
    have n21 : ¬ c = 21 := by omega
    have n148 : ¬ c = 148 := by omega
    have n149 : ¬ c = 149 := by omega
    have n40 : ¬ c = 40 := by omega
    have n47 : ¬ c = 47 := by omega
    have n146 : ¬ c = 146 := by omega
    have n157 : ¬ c = 157 := by omega
    have n158 : ¬ c = 158 := by omega
    have n163 : ¬ c = 163 := by omega
    have n6 : ¬ c = 6 := by omega
    have n150 : ¬ c = 150 := by omega
    have n151 : ¬ c = 151 := by omega
    have n155 : ¬ c = 155 := by omega
    have n156 : ¬ c = 156 := by omega
    have n159 : ¬ c = 159 := by omega
    have b0 : c ≥ 8 := by omega
    have b1 : c ≤ 15 := by omega
    have b2 : ¬ c ≥ 112 := by omega
    have b3 : c ≤ 143 := by omega
    have b4 : ¬ c ≥ 18 := by omega
    have b5 : c ≤ 46 := by omega
    have b6 : ¬ c ≥ 48 := by omega
    have b7 : c ≤ 111 := by omega
    have tm : c.tmod 2 = 1 := by rw [n0]; rfl
    have wr : IntKind.i64.wrap (3 + 1) = 4 := rfl
    have hs : shp c = 4 := by rw [n0]; decide
    rw [hs] at h
    ((try first | refine walk_aw env_ok (none) ?_ | refine walk_aw envR_ok (none) ?_); try simp -implicitDefEqProofs (maxSteps := 1000000) only [go_sem, ↓reduceIte, reduceCtorEq, Nat.reduceLT, Nat.reduceEqDiff, Nat.reduceBEq, Nat.reduceAdd, Nat.reduceMul, Nat.reduceSub, Nat.reduceLeDiff, Int.reduceNeg, Int.reduceLT, Int.reduceLE, Int.reduceEq, Int.reduceAdd, Int.reduceToNat, n3, n8, n9, n10, n11, n12, n13, n14, n15, n16, n35, n144, n147, n161, n162, n17, n145, n21, n148, n149, n40, n47, n146, n157, n158, n163, n6, n150, n151, n155, n156, n159, b0, b1, b2, b3, b4, b5, b6, b7, tm, wr])
    exact .inl h
  by_cases n0 : c = 16
  · have n3 : ¬ c = 3 := by omega
    have n8 : ¬ c = 8 := by omega
    have n9 : ¬ c = 9 := by omega
    have n10 : ¬ c = 10 := by omega
    have n11 : ¬ c = 11 := by omega
    have n12 : ¬ c = 12 := by omega
    have n13 : ¬ c = 13 := by omega
    have n14 : ¬ c = 14 := by omega
    have n15 : ¬ c = 15 := by omega
    have n16 : (c = 16) = True := eq_true n0
    have n35 : ¬ c = 35 := by omega
    have n144 : ¬ c = 144 := by omega
    have n147 : ¬ c = 147 := by omega
    have n161 : ¬ c = 161 := by omega
    have n162 : ¬ c = 162 := by omega
    have n17 : ¬ c = 17 := by omega
    have n145 : ¬ c = 145 := by omega
    have n21 : ¬ c = 21 := by omega
    have n148 : ¬ c = 148 := by omega
    have n149 : ¬ c = 149 := by omega
    have n40 : ¬ c = 40 := by omega
    have n47 : ¬ c = 47 := by omega
    have n146 : ¬ c = 146 := by omega
    have n157 : ¬ c = 157 := by omega
    have n158 : ¬ c = 158 := by omega
    have n163 : ¬ c = 163 := by omega
    have n6 : ¬ c = 6 := by omega
    have n150 : ¬ c = 150 := by omega
    have n151 : ¬ c = 151 := by omega
    have n155 : ¬ c = 155 := by omega
    have n156 : ¬ c = 156 := by omega
    have n159 : ¬ c = 159 := by omega
    have b0 : c ≥ 8 := by omega
    have b1 : ¬ c ≤ 15 := by omega
    have b2 : ¬ c ≥ 112 := by omega
    have b3 : c ≤ 143 := by omega
    have b4 : ¬ c ≥ 18 := by omega
    have b5 : c ≤ 46 := by omega
    have b6 : ¬ c ≥ 48 := by omega
    have b7 : c ≤ 111 := by omega
    have hs : shp c = 5 := by rw [n0]; decide
    rw [hs] at h
    ((try first | refine walk_aw env_ok (none) ?_ | refine walk_aw envR_ok (none) ?_); try simp -implicitDefEqProofs (maxSteps := 1000000) only [go_sem, ↓reduceIte, reduceCtorEq, Nat.reduceLT, Nat.reduceEqDiff, Nat.reduceBEq, Nat.reduceAdd, Nat.reduceMul, Nat.reduceSub, Nat.reduceLeDiff, Int.reduceNeg, Int.reduceLT, Int.reduceLE, Int.reduceEq, Int.reduceAdd, Int.reduceToNat, n3, n8, n9, n10, n11, n12, n13, n14, n15, n16, n35, n144, n147, n161, n162, n17, n145, n21, n148, n149, n40, n47, n146, n157, n158, n163, n6, n150, n151, n155, n156, n159, b0, b1, b2, b3, b4, b5, b6, b7])
    exact .inl h
  by_cases n0 : c = 35
  · have n3 : ¬ c = 3 := by omega
    have n8 : ¬ c = 8 := by omega
    have n9 : ¬ c = 9 := by omega
    have n10 : ¬ c = 10 := by omega
    have n11 : ¬ c = 11 := by omega
    have n12 : ¬ c = 12 := by omega
    have n13 : ¬ c = 13 := by omega
    have n14 : ¬ c = 14 := by omega
    have n15 : ¬ c = 15 := by omega
    have n16 : ¬ c = 16 := by omega
    have n35 : (c = 35) = True := eq_true n0
    have n144 : ¬ c = 144 := by omega
    have n147 : ¬ c = 147 := by omega
    have n161 : ¬ c = 161 := by omega
    have n162 : ¬ c = 162 := by omega
    have n17 : ¬ c = 17 := by omega
    have n145 : ¬ c = 145 := by omega
    have n21 : ¬ c = 21 := by omega
    have n148 : ¬ c = 148 := by omega
    have n149 : ¬ c = 149 := by omega
    have n40 : ¬ c = 40 := by omega
    have n47 : ¬ c = 47 := by omega
    have n146 : ¬ c = 146 := by omega
    have n157 : ¬ c = 157 := by omega
    have n158 : ¬ c = 158 := by omega
    have n163 : ¬ c = 163 := by omega
    have n6 : ¬ c = 6 := by omega
    have n150 : ¬ c = 150 := by omega
    have n151 : ¬ c = 151 := by omega
    have n155 : ¬ c = 155 := by omega
    have n156 : ¬ c = 156 := by omega
    have n159 : ¬ c = 159 := by omega
    have b0 : c ≥ 8 := by omega
    have b1 : ¬ c ≤ 15 := by omega
    have b2 : ¬ c ≥ 112 := by omega
    have b3 : c ≤ 143 := by omega
    have b4 : c ≥ 18 := by omega
    have b5 : c ≤ 46 := by omega
    have b6 : ¬ c ≥ 48 := by omega
    have b7 : c ≤ 111 := by omega
    have hs : shp c = 5 := by rw [n0]; decide
    rw [hs] at h
    ((try first | refine walk_aw env_ok (none) ?_ | refine walk_aw envR_ok (none) ?_); try simp -implicitDefEqProofs (maxSteps := 1000000) only [go_sem, ↓reduceIte, reduceCtorEq, Nat.reduceLT, Nat.reduceEqDiff, Nat.reduceBEq, Nat.reduceAdd, Nat.reduceMul, Nat.reduceSub, Nat.reduceLeDiff, Int.reduceNeg, Int.reduceLT, Int.reduceLE, Int.reduceEq, Int.reduceAdd, Int.reduceToNat, n3, n8, n9, n10, n11, n12, n13, n14, n15, n16, n35, n144, n147, n161, n162, n17, n145, n21, n148, n149, n40, n47, n146, n157, n158, n163, n6, n150, n151, n155, n156, n159, b0, b1, b2, b3, b4, b5, b6, b7])
    exact .inl h
  by_cases n0 : c = 144
  · have n3 : ¬ c = 3 := by omega
    have n8 : ¬ c = 8 := by omega
    have n9 : ¬ c = 9 := by omega
    have n10 : ¬ c = 10 := by omega
    have n11 : ¬ c = 11 := by omega
    have n12 : ¬ c = 12 := by omega
    have n13 : ¬ c = 13 := by omega
    have n14 : ¬ c = 14 := by omega
    have n15 : ¬ c = 15 := by omega
    have n16 : ¬ c = 16 := by omega
    have n35 : ¬ c = 35 := by omega
    have n144 : (c = 144) = True := eq_true n0
    have n147 : ¬ c = 147 := by omega
    have n161 : ¬ c = 161 := by omega
    have n162 : ¬ c = 162 := by omega
    have n17 : ¬ c = 17 := by omega
    have n145 : ¬ c = 145 := by omega
    have n21 : ¬ c = 21 := by omega
    have n148 : ¬ c = 148 := by omega
    have n149 : ¬ c = 149 := by omega
    have n40 : ¬ c = 40 := by omega
    have n47 : ¬ c = 47 := by omega
    have n146 : ¬ c = 146 := by omega
    have n157 : ¬ c = 157 := by omega
    have n158 : ¬ c = 158 := by omega
    have n163 : ¬ c = 163 := by omega
    have n6 : ¬ c = 6 := by omega
    have n150 : ¬ c = 150 := by omega
    have n151 : ¬ c = 151 := by omega
    have n155 : ¬ c = 155 := by omega
    have n156 : ¬ c = 156 := by omega
    have n159 : ¬ c = 159 := by omega
    have b0 : c ≥ 8 := by omega
    have b1 : ¬ c ≤ 15 := by omega
    have b2 : c ≥ 112 := by omega
    have b3 : ¬ c ≤ 143 := by omega
    have b4 : c ≥ 18 := by omega
    have b5 : ¬ c ≤ 46 := by omega
    have b6 : c ≥ 48 := by omega
    have b7 : ¬ c ≤ 111 := by omega
    have hs : shp c = 5 := by rw [n0]; decide
    rw [hs] at h
    ((try first | refine walk_aw env_ok (none) ?_ | refine walk_aw envR_ok (none) ?_); try simp -implicitDefEqProofs (maxSteps := 1000000) only [go_sem, ↓reduceIte, reduceCtorEq, Nat.reduceLT, Nat.reduceEqDiff, Nat.reduceBEq, Nat.reduceAdd, Nat.reduceMul, Nat.reduceSub, Nat.reduceLeDiff, Int.reduceNeg, Int.reduceLT, Int.reduceLE, Int.reduceEq, Int.reduceAdd, Int.reduceToNat, n3, n8, n9, n10, n11, n12, n13, n14, n15, n16, n35, n144, n147, n161, n162, n17, n145, n21, n148, n149, n40, n47, n146, n157, n158, n163, n6, n150, n151, n155, n156, n159, b0, b1, b2, b3, b4, b5, b6, b7])
    exact .inl h
  by_cases n0 : c = 147
  · have n3 : ¬ c = 3 := by omega
    have n8 : ¬ c = 8 := by omega
    have n9 : ¬ c = 9 := by omega
    have n10 : ¬ c = 10 := by omega
    have n11 : ¬ c = 11 := by omega
    have n12 : ¬ c = 12 := by omega
    have n13 : ¬ c = 13 := by omega
    have n14 : ¬ c = 14 := by omega
    have n15 : ¬ c = 15 := by omega
    have n16 : ¬ c = 16 := by omega
    have n35 : ¬ c = 35 := by omega
    have n144 : ¬ c = 144 := by omega
    have n147 : (c = 147) = True := eq_true n0
    have n161 : ¬ c = 161 := by omega
    have n162 : ¬ c = 162 := by omega
    have n17 : ¬ c = 17 := by omega
    have n145 : ¬ c = 145 := by omega
    have n21 : ¬ c = 21 := by omega
    have n148 : ¬ c = 148 := by omega
    have n149 : ¬ c = 149 := by omega
    have n40 : ¬ c = 40 := by omega
    have n47 : ¬ c = 47 := by omega
    have n146 : ¬ c = 146 := by omega
    have n157 : ¬ c = 157 := by omega
    have n158 : ¬ c = 158 := by omega
    have n163 : ¬ c = 163 := by omega
    have n6 : ¬ c = 6 := by omega
    have n150 : ¬ c = 150 := by omega
    have n151 : ¬ c = 151 := by omega
    have n155 : ¬ c = 155 := by omega
    have n156 : ¬ c = 156 := by omega
    have n159 : ¬ c = 159 := by omega
    have b0 : c ≥ 8 := by omega
    have b1 : ¬ c ≤ 15 := by omega
    have b2 : c ≥ 112 := by omega
    have b3 : ¬ c ≤ 143 := by omega
    have b4 : c ≥ 18 := by omega
    have b5 : ¬ c ≤ 46 := by omega
    have b6 : c ≥ 48 := by omega
    have b7 : ¬ c ≤ 111 := by omega
    have hs : shp c = 5 := by rw [n0]; decide
    rw [hs] at h
    ((try first | refine walk_aw env_ok (none) ?_ | refine walk_aw envR_ok (none) ?_); try simp -implicitDefEqProofs (maxSteps := 1000000) only [go_sem, ↓reduceIte, reduceCtorEq, Nat.reduceLT, Nat.reduceEqDiff, Nat.reduceBEq, Nat.reduceAdd, Nat.reduceMul, Nat.reduceSub, Nat.reduceLeDiff, Int.reduceNeg, Int.reduceLT, Int.reduceLE, Int.reduceEq, Int.reduceAdd, Int.reduceToNat, n3, n8, n9, n10, n11, n12, n13, n14, n15, n16, n35, n144, n147, n161, n162, n17, n145, n21, n148, n149, n40, n47, n146, n157, n158, n163, n6, n150, n151, n155, n156, n159, b0, b1, b2, b3, b4, b5, b6, b7])
    exact .inl h
  by_cases n0 : c = 161
  · have n3 : ¬ c = 3 := by omega
    have n8 : ¬ c = 8 := by omega
    have n9 : ¬ c = 9 := by omega
    have n10 : ¬ c = 10 := by omega
    have n11 : ¬ c = 11 := by omega
    have n12 : ¬ c = 12 := by omega
    have n13 : ¬ c = 13 := by omega
    have n14 : ¬ c = 14 := by omega
    have n15 : ¬ c = 15 := by omega
    have n16 : ¬ c = 16 := by omega
    have n35 : ¬ c = 35 := by omega
    have n144 : ¬ c = 144 := by omega
    have n147 : ¬ c = 147 := by omega
    have n161 : (c = 161) = True := eq_true n0
    have n162 : ¬ c = 162 := by omega
    have n17 : ¬ c = 17 := by omega
    have n145 : ¬ c = 145 := by omega
    have n21 : ¬ c = 21 := by omega
    have n148 : ¬ c = 148 := by omega
    have n149 : ¬ c = 149 := by omega
    have n40 : ¬ c = 40 := by omega
    have n47 : ¬ c = 47 := by omega
    have n146 : ¬ c = 146 := by omega
    have n157 : ¬ c = 157 := by omega
    have n158 : ¬ c = 158 := by omega
    have n163 : ¬ c = 163 := by omega
    have n6 : ¬ c = 6 := by omega
    have n150 : ¬ c = 150 := by omega
    have n151 : ¬ c = 151 := by omega
    have n155 : ¬ c = 155 := by omega
    have n156 : ¬ c = 156 := by omega
    have n159 : ¬ c = 159 := by omega
    have b0 : c ≥ 8 := by omega
    have b1 : ¬ c ≤ 15 := by omega
    have b2 : c ≥ 112 := by omega
    have b3 : ¬ c ≤ 143 := by omega
    have b4 : c ≥ 18 := by omega
    have b5 : ¬ c ≤ 46 := by omega
    have b6 : c ≥ 48 := by omega
    have b7 : ¬ c ≤ 111 := by omega
    have hs : shp c = 5 := by rw [n0]; decide
    rw [hs] at h
    ((try first | refine walk_aw env_ok (none) ?_ | refine walk_aw envR_ok (none) ?_); try simp -implicitDefEqProofs (maxSteps := 1000000) only [go_sem, ↓reduceIte, reduceCtorEq, Nat.reduceLT, Nat.reduceEqDiff, Nat.reduceBEq, Nat.reduceAdd, Nat.reduceMul, Nat.reduceSub, Nat.reduceLeDiff, Int.reduceNeg, Int.reduceLT, Int.reduceLE, Int.reduceEq, Int.reduceAdd, Int.reduceToNat, n3, n8, n9, n10, n11, n12, n13, n14, n15, n16, n35, n144, n147, n161, n162, n17, n145, n21, n148, n149, n40, n47, n146, n157, n158, n163, n6, n150, n151, n155, n156, n159, b0, b1, b2, b3, b4, b5, b6, b7])
    exact .inl h
  by_cases n0 : c = 162
  · have n3 : ¬ c = 3 := by omega
    have n8 : ¬ c = 8 := by omega
    have n9 : ¬ c = 9 := by omega
    have n10 : ¬ c = 10 := by omega
    have n11 : ¬ c = 11 := by omega
    have n12 : ¬ c = 12 := by omega
    have n13 : ¬ c = 13 := by omega
    have n14 : ¬ c = 14 := by omega
    have n15 : ¬ c = 15 := by omega
    have n16 : ¬ c = 16 := by omega
    have n35 : ¬ c = 35 := by omega
    have n144 : ¬ c = 144 := by omega
    have n147 : ¬ c = 147 := by omega
    have n161 : ¬ c = 161 := by omega
    have n162 : (c = 162) = True := eq_true n0
    have n17 : ¬ c = 17 := by omega
    have n145 : ¬ c = 145 := by omega
    have n21 : ¬ c = 21 := by omega
    have n148 : ¬ c = 148 := by omega
    have n149 : ¬ c = 149 := by omega
    have n40 : ¬ c = 40 := by omega
    have n47 : ¬ c = 47 := by omega
    have n146 : ¬ c = 146 := by omega
    have n157 : ¬ c = 157 := by omega
    have n158 : ¬ c = 158 := by omega
    have n163 : ¬ c = 163 := by omega
    have n6 : ¬ c = 6 := by omega
    have n150 : ¬ c = 150 := by omega
    have n151 : ¬ c = 151 := by omega
    have n155 : ¬ c = 155 := by omega
    have n156 : ¬ c = 156 := by omega
    have n159 : ¬ c = 159 := by omega
    have b0 : c ≥ 8 := by omega
    have b1 : ¬ c ≤ 15 := by omega
    have b2 : c ≥ 112 := by omega
    have b3 : ¬ c ≤ 143 := by omega
    have b4 : c ≥ 18 := by omega
    have b5 : ¬ c ≤ 46 := by omega
    have b6 : c ≥ 48 := by omega
    have b7 : ¬ c ≤ 111 := by omega
    have hs : shp c = 5 := by rw [n0]; decide
    rw [hs] at h
    ((try first | refine walk_aw env_ok (none) ?_ | refine walk_aw envR_ok (none) ?_); try simp -implicitDefEqProofs (maxSteps := 1000000) only [go_sem, ↓reduceIte, reduceCtorEq, Nat.reduceLT, Nat.reduceEqDiff, Nat.reduceBEq, Nat.reduceAdd, Nat.reduceMul, Nat.reduceSub, Nat.reduceLeDiff, Int.reduceNeg, Int.reduceLT, Int.reduceLE, Int.reduceEq, Int.reduceAdd, Int.reduceToNat, n3, n8, n9, n10, n11, n12, n13, n14, n15, n16, n35, n144, n147, n161, n162, n17, n145, n21, n148, n149, n40, n47, n146, n157, n158, n163, n6, n150, n151, n155, n156, n159, b0, b1, b2, b3, b4, b5, b6, b7])
    exact .inl h
  by_cases n0 : c = 17
  · have n3 : ¬ c = 3 := by omega
    have n8 : ¬ c = 8 := by omega
    have n9 : ¬ c = 9 := by omega
    have n10 : ¬ c = 10 := by omega
    have n11 : ¬ c = 11 := by omega
    have n12 : ¬ c = 12 := by omega
    have n13 : ¬ c = 13 := by omega
    have n14 : ¬ c = 14 := by omega
    have n15 : ¬ c = 15 := by omega
    have n16 : ¬ c = 16 := by omega
    have n35 : ¬ c = 35 := by omega
    have n144 : ¬ c = 144 := by omega
    have n147 : ¬ c = 147 := by omega
    have n161 : ¬ c = 161 := by omega
    have n162 : ¬ c = 162 := by omega
    have n17 : (c = 17) = True := eq_true n0
    have n145 : ¬ c = 145 := by omega
    have n21 : ¬ c = 21 := by omega
    have n148 : ¬ c = 148 := by omega
    have n149 : ¬ c = 149 := by omega
    have n40 : ¬ c = 40 := by omega
    have n47 : ¬ c = 47 := by omega
    have n146 : ¬ c = 146 := by omega
    have n157 : ¬ c = 157 := by omega
    have n158 : ¬ c = 158 := by omega
    have n163 : ¬ c = 163 := by omega
    have n6 : ¬ c = 6 := by omega
    have n150 : ¬ c = 150 := by omega
    have n151 : ¬ c = 151 := by omega
    have n155 : ¬ c = 155 := by omega
    have n156 : ¬ c = 156 := by omega
    have n159 : ¬ c = 159 := by omega
    have b0 : c ≥ 8 := by omega
    have b1 : ¬ c ≤ 15 := by omega
    have b2 : ¬ c ≥ 112 := by omega
    have b3 : c ≤ 143 := by omega
    have b4 : ¬ c ≥ 18 := by omega
    have b5 : c ≤ 46 := by omega
    have b6 : ¬ c ≥ 48 := by omega
    have b7 : c ≤ 111 := by omega
    have hs : shp c = 6 := by rw [n0]; decide
    rw [hs] at h
    ((try first | refine walk_aw env_ok (none) ?_ | refine walk_aw envR_ok (none) ?_); try simp -implicitDefEqProofs (maxSteps := 1000000) only [go_sem, ↓reduceIte, reduceCtorEq, Nat.reduceLT, Nat.reduceEqDiff, Nat.reduceBEq, Nat.reduceAdd, Nat.reduceMul, Nat.reduceSub, Nat.reduceLeDiff, Int.reduceNeg, Int.reduceLT, Int.reduceLE, Int.reduceEq, Int.reduceAdd, Int.reduceToNat, n3, n8, n9, n10, n11, n12, n13, n14, n15, n16, n35, n144, n147, n161, n162, n17, n145, n21, n148, n149, n40, n47, n146, n157, n158, n163, n6, n150, n151, n155, n156, n159, b0, b1, b2, b3, b4, b5, b6, b7])
    exact .inl h
  by_cases n0 : c = 145
  · have n3 : ¬ c = 3 := by omega
    have n8 : ¬ c = 8 := by omega
    have n9 : ¬ c = 9 := by omega
    have n10 : ¬ c = 10 := by omega
    have n11 : ¬ c = 11 := by omega
    have n12 : ¬ c = 12 := by omega
    have n13 : ¬ c = 13 := by omega
    have n14 : ¬ c = 14 := by omega
    have n15 : ¬ c = 15 := by omega
    have n16 : ¬ c = 16 := by omega
    have n35 : ¬ c = 35 := by omega
    have n144 : ¬ c = 144 := by omega
    have n147 : ¬ c = 147 := by omega
    have n161 : ¬ c = 161 := by omega
    have n162 : ¬ c = 162 := by omega
    have n17 : ¬ c = 17 := by omega
    have n145 : (c = 145) = True := eq_true n0
    have n21 : ¬ c = 21 := by omega
    have n148 : ¬ c = 148 := by omega
    have n149 : ¬ c = 149 := by omega
    have n40 : ¬ c = 40 := by omega
    have n47 : ¬ c = 47 := by omega
    have n146 : ¬ c = 146 := by omega
    have n157 : ¬ c = 157 := by omega
    have n158 : ¬ c = 158 := by omega
    have n163 : ¬ c = 163 := by omega
    have n6 : ¬ c = 6 := by omega
    have n150 : ¬ c = 150 := by omega
    have n151 : ¬ c = 151 := by omega
    have n155 : ¬ c = 155 := by omega
    have n156 : ¬ c = 156 := by omega
    have n159 : ¬ c = 159 := by omega
    have b0 : c ≥ 8 := by omega
    have b1 : ¬ c ≤ 15 := by omega
    have b2 : c ≥ 112 := by omega
    have b3 : ¬ c ≤ 143 := by omega
    have b4 : c ≥ 18 := by omega
    have b5 : ¬ c ≤ 46 := by omega
    have b6 : c ≥ 48 := by omega
    have b7 : ¬ c ≤ 111 := by omega
    have hs : shp c = 6 := by rw [n0]; decide
    rw [hs] at h
    ((try first | refine walk_aw env_ok (none) ?_ | refine walk_aw envR_ok (none) ?_); try simp -implicitDefEqProofs (maxSteps := 1000000) only [go_sem, ↓reduceIte, reduceCtorEq, Nat.reduceLT, Nat.reduceEqDiff, Nat.reduceBEq, Nat.reduceAdd, Nat.reduceMul, Nat.reduceSub, Nat.reduceLeDiff, Int.reduceNeg, Int.reduceLT, Int.reduceLE, Int.reduceEq, Int.reduceAdd, Int.reduceToNat, n3, n8, n9, n10, n11, n12, n13, n14, n15, n16, n35, n144, n147, n161, n162, n17, n145, n21, n148, n149, n40, n47, n146, n157, n158, n163, n6, n150, n151, n155, n156, n159, b0, b1, b2, b3, b4, b5, b6, b7])
    exact .inl h
  by_cases n0 : c = 21
  · have n3 : ¬ c = 3 := by omega
    have n8 : ¬ c = 8 := by omega
    have n9 : ¬ c = 9 := by omega
    have n10 : ¬ c = 10 := by omega
    have n11 : ¬ c = 11 := by omega
    have n12 : ¬ c = 12 := by omega
    have n13 : ¬ c = 13 := by omega
    have n14 : ¬ c = 14 := by omega
    have n15 : ¬ c = 15 := by omega
    have n16 : ¬ c = 16 := by omega
    have n35 : ¬ c = 35 := by omega
    have n144 : ¬ c = 144 := by omega
    have n147 : ¬ c = 147 := by omega
    have n161 : ¬ c = 161 := by omega
    have n162 : ¬ c = 162 := by omega
    have n17 : ¬ c = 17 := by omega
    have n145 : ¬ c = 145 := by omega
    have n21 : (c = 21) = True := eq_true n0
    have n148 : ¬ c = 148 := by omega
    have n149 : ¬ c = 149 := by omega
    have n40 : ¬ c = 40 := by omega
    have n47 : ¬ c = 47 := by omega
    have n146 : ¬ c = 146 := by omega
    have n157 : ¬ c = 157 := by omega
    have n158 : ¬ c = 158 := by omega
    have n163 : ¬ c = 163 := by omega
    have n6 : ¬ c = 6 := by omega
    have n150 : ¬ c = 150 := by omega
    have n151 : ¬ c = 151 := by omega
    have n155 : ¬ c = 155 := by omega
    have n156 : ¬ c = 156 := by omega
    have n159 : ¬ c = 159 := by omega
    have b0 : c ≥ 8 := by omega
    have b1 : ¬ c ≤ 15 := by omega
    have b2 : ¬ c ≥ 112 := by omega
    have b3 : c ≤ 143 := by omega
    have b4 : c ≥ 18 := by omega
    have b5 : c ≤ 46 := by omega
    have b6 : ¬ c ≥ 48 := by omega
    have b7 : c ≤ 111 := by omega
    have hs : shp c = 7 := by rw [n0]; decide
    rw [hs] at h
    ((try first | refine walk_aw env_ok (none) ?_ | refine walk_aw envR_ok (none) ?_); try simp -implicitDefEqProofs (maxSteps := 1000000) only [go_sem, ↓reduceIte, reduceCtorEq, Nat.reduceLT, Nat.reduceEqDiff, Nat.reduceBEq, Nat.reduceAdd, Nat.reduceMul, Nat.reduceSub, Nat.reduceLeDiff, Int.reduceNeg, Int.reduceLT, Int.reduceLE, Int.reduceEq, Int.reduceAdd, Int.reduceToNat, n3, n8, n9, n10, n11, n12, n13, n14, n15, n16, n35, n144, n147, n161, n162, n17, n145, n21, n148, n149, n40, n47, n146, n157, n158, n163, n6, n150, n151, n155, n156, n159, b0, b1, b2, b3, b4, b5, b6, b7])
    exact .inl h
  by_cases n0 : c = 148
  · have n3 : ¬ c = 3 := by omega
    have n8 : ¬ c = 8 := by omega
    have n9 : ¬ c = 9 := by omega
    have n10 : ¬ c = 10 := by omega
    have n11 : ¬ c = 11 := by omega
    have n12 : ¬ c = 12 := by omega
    have n13 : ¬ c = 13 := by omega
    have n14 : ¬ c = 14 := by omega
    have n15 : ¬ c = 15 := by omega
    have n16 : ¬ c = 16 := by omega
    have n35 : ¬ c = 35 := by omega
    have n144 : ¬ c = 144 := by omega
    have n147 : ¬ c = 147 := by omega
    have n161 : ¬ c = 161 := by omega
    have n162 : ¬ c = 162 := by omega
    have n17 : ¬ c = 17 := by omega
    have n145 : ¬ c = 145 := by omega
    have n21 : ¬ c = 21 := by omega
    have n148 : (c = 148) = True := eq_true n0
    have n149 : ¬ c = 149 := by omega
    have n40 : ¬ c = 40 := by omega
    have n47 : ¬ c = 47 := by omega
    have n146 : ¬ c = 146 := by omega
    have n157 : ¬ c = 157 := by omega
    have n158 : ¬ c = 158 := by omega
    have n163 : ¬ c = 163 := by omega
    have n6 : ¬ c = 6 := by omega
    have n150 : ¬ c = 150 := by omega
    have n151 : ¬ c = 151 := by omega
    have n155 : ¬ c = 155 := by omega
    have n156 : ¬ c = 156 := by omega
    have n159 : ¬ c = 159 := by omega
    have b0 : c ≥ 8 := by omega
    have b1 : ¬ c ≤ 15 := by omega
    have b2 : c ≥ 112 := by omega
    have b3 : ¬ c ≤ 143 := by omega
    have b4 : c ≥ 18 := by omega
    have b5 : ¬ c ≤ 46 := by omega
    have b6 : c ≥ 48 := by omega
    have b7 : ¬ c ≤ 111 := by omega
    have hs : shp c = 7 := by rw [n0]; decide
    rw [hs] at h
    ((try first | refine walk_aw env_ok (none) ?_ | refine walk_aw envR_ok (none) ?_); try simp -implicitDefEqProofs (maxSteps := 1000000) only [go_sem, ↓reduceIte, reduceCtorEq, Nat.reduceLT, Nat.reduceEqDiff, Nat.reduceBEq, Nat.reduceAdd, Nat.reduceMul, Nat.reduceSub, Nat.reduceLeDiff, Int.reduceNeg, Int.reduceLT, Int.reduceLE, Int.reduceEq, Int.reduceAdd, Int.reduceToNat, n3, n8, n9, n10, n11, n12, n13, n14, n15, n16, n35, n144, n147, n161, n162, n17, n145, n21, n148, n149, n40, n47, n146, n157, n158, n163, n6, n150, n151, n155, n156, n159, b0, b1, b2, b3, b4, b5, b6, b7])
    exact .inl h
  by_cases n0 : c = 149
  · have n3 : ¬ c = 3 := by omega
    have n8 : ¬ c = 8 := by omega
    have n9 : ¬ c = 9 := by omega
    have n10 : ¬ c = 10 := by omega
    have n11 : ¬ c = 11 := by omega
    have n12 : ¬ c = 12 := by omega
    have n13 : ¬ c = 13 := by omega
    have n14 : ¬ c = 14 := by omega
    have n15 : ¬ c = 15 := by omega
    have n16 : ¬ c = 16 := by omega
    have n35 : ¬ c = 35 := by omega
    have n144 : ¬ c = 144 := by omega
    have n147 : ¬ c = 147 := by omega
    have n161 : ¬ c = 161 := by omega
    have n162 : ¬ c = 162 := by omega
    have n17 : ¬ c = 17 := by omega
    have n145 : ¬ c = 145 := by omega
    have n21 : ¬ c = 21 := by omega
    have n148 : ¬ c = 148 := by omega
    have n149 : (c = 149) = True := eq_true n0
    have n40 : ¬ c = 40 := by omega
    have n47 : ¬ c = 47 := by omega
    have n146 : ¬ c = 146 := by omega
    have n157 : ¬ c = 157 := by omega
    have n158 : ¬ c = 158 := by omega
    have n163 : ¬ c = 163 := by omega
    have n6 : ¬ c = 6 := by omega
    have n150 : ¬ c = 150 := by omega
    have n151 : ¬ c = 151 := by omega
    have n155 : ¬ c = 155 := by omega
    have n156 : ¬ c = 156 := by omega
    have n159 : ¬ c = 159 := by omega
    have b0 : c ≥ 8 := by omega
    have b1 : ¬ c ≤ 15 := by omega
    have b2 : c ≥ 112 := by omega
    have b3 : ¬ c ≤ 143 := by omega
    have b4 : c ≥ 18 := by omega
    have b5 : ¬ c ≤ 46 := by omega
    have b6 : c ≥ 48 := by omega
    have b7 : ¬ c ≤ 111 := by omega
    have hs : shp c = 7 := by rw [n0]; decide
    rw [hs] at h
    ((try first | refine walk_aw env_ok (none) ?_ | refine walk_aw envR_ok (none) ?_); try simp -implicitDefEqProofs (maxSteps := 1000000) only [go_sem, ↓reduceIte, reduceCtorEq, Nat.reduceLT, Nat.reduceEqDiff, Nat.reduceBEq, Nat.reduceAdd, Nat.reduceMul, Nat.reduceSub, Nat.reduceLeDiff, Int.reduceNeg, Int.reduceLT, Int.reduceLE, Int.reduceEq, Int.reduceAdd, Int.reduceToNat, n3, n8, n9, n10, n11, n12, n13, n14, n15, n16, n35, n144, n147, n161, n162, n17, n145, n21, n148, n149, n40, n47, n146, n157, n158, n163, n6, n150, n151, n155, n156, n159, b0, b1, b2, b3, b4, b5, b6, b7])
    exact .inl h
  by_cases n0 : c = 40
  · have n3 : ¬ c = 3 := by omega
    have n8 : ¬ c = 8 := by omega
    have n9 : ¬ c = 9 := by omega
    have n10 : ¬ c = 10 := by omega
    have n11 : ¬ c = 11 := by omega
    have n12 : ¬ c = 12 := by omega
    have n13 : ¬ c = 13 := by omega
    have n14 : ¬ c = 14 := by omega
    have n15 : ¬ c = 15 := by omega
    have n16 : ¬ c = 16 := by omega
    have n35 : ¬ c = 35 := by omega
    have n144 : ¬ c = 144 := by omega
    have n147 : ¬ c = 147 := by omega
    have n161 : ¬ c = 161 := by omega
    have n162 : ¬ c = 162 := by omega
    have n17 : ¬ c = 17 := by omega
    have n145 : ¬ c = 145 := by omega
    have n21 : ¬ c = 21 := by omega
    have n148 : ¬ c = 148 := by omega
    have n149 : ¬ c = 149 := by omega
    have n40 : (c = 40) = True := eq_true n0
    have n47 : ¬ c = 47 := by omega
    have n146 : ¬ c = 146 := by omega
    have n157 : ¬ c = 157 := by omega
    have n158 : ¬ c = 158 := by omega
    have n163 : ¬ c = 163 := by omega
    have n6 : ¬ c = 6 := by omega
    have n150 : ¬ c = 150 := by omega
    have n151 : ¬ c = 151 := by omega
    have n155 : ¬ c = 155 := by omega
    have n156 : ¬ c = 156 := by omega
    have n159 : ¬ c = 159 := by omega
    have b0 : c ≥ 8 := by omega
    have b1 : ¬ c ≤ 15 := by omega
    have b2 : ¬ c ≥ 112 := by omega
    have b3 : c ≤ 143 := by omega
    have b4 : c ≥ 18 := by omega
    have b5 : c ≤ 46 := by omega
    have b6 : ¬ c ≥ 48 := by omega
    have b7 : c ≤ 111 := by omega
    have hs : shp c = 8 := by rw [n0]; decide
    rw [hs] at h
    ((try first | refine walk_aw env_ok (none) ?_ | refine walk_aw envR_ok (none) ?_); try simp -implicitDefEqProofs (maxSteps := 1000000) only [go_sem, ↓reduceIte, reduceCtorEq, Nat.reduceLT, Nat.reduceEqDiff, Nat.reduceBEq, Nat.reduceAdd, Nat.reduceMul, Nat.reduceSub, Nat.reduceLeDiff, Int.reduceNeg, Int.reduceLT, Int.reduceLE, Int.reduceEq, Int.reduceAdd, Int.reduceToNat, n3, n8, n9, n10, n11, n12, n13, n14, n15, n16, n35, n144, n147, n161, n162, n17, n145, n21, n148, n149, n40, n47, n146, n157, n158, n163, n6, n150, n151, n155, n156, n159, b0, b1, b2, b3, b4, b5, b6, b7])
    exact .inl h
  by_cases n0 : c = 47
  · have n3 : ¬ c = 3 := by omega
    have n8 : ¬ c = 8 := by omega
    have n9 : ¬ c = 9 := by omega
    have n10 : ¬ c = 10 := by omega
    have n11 : ¬ c = 11 := by omega
    have n12 : ¬ c = 12 := by omega
    have n13 : ¬ c = 13 := by omega
    have n14 : ¬ c = 14 := by omega
    have n15 : ¬ c = 15 := by omega
    have n16 : ¬ c = 16 := by omega
    have n35 : ¬ c = 35 := by omega
    have n144 : ¬ c = 144 := by omega
    have n147 : ¬ c = 147 := by omega
    have n161 : ¬ c = 161 := by omega
    have n162 : ¬ c = 162 := by omega
    have n17 : ¬ c = 17 := by omega
    have n145 : ¬ c = 145 := by omega
    have n21 : ¬ c = 21 := by omega
    have n148 : ¬ c = 148 := by omega
    have n149 : ¬ c = 149 := by omega
    have n40 : ¬ c = 40 := by omega
    have n47 : (c = 47) = True := eq_true n0
    have n146 : ¬ c = 146 := by omega
    have n157 : ¬ c = 157 := by omega
    have n158 : ¬ c = 158 := by omega
    have n163 : ¬ c = 163 := by omega
    have n6 : ¬ c = 6 := by omega
    have n150 : ¬ c = 150 := by omega
    have n151 : ¬ c = 151 := by omega
    have n155 : ¬ c = 155 := by omega
    have n156 : ¬ c = 156 := by omega
    have n159 : ¬ c = 159 := by omega
    have b0 : c ≥ 8 := by omega
    have b1 : ¬ c ≤ 15 := by omega
    have b2 : ¬ c ≥ 112 := by omega
    have b3 : c ≤ 143 := by omega
    have b4 : c ≥ 18 := by omega
    have b5 : ¬ c ≤ 46 := by omega
    have b6 : ¬ c ≥ 48 := by omega
    have b7 : c ≤ 111 := by omega
    have hs : shp c = 8 := by rw [n0]; decide
    rw [hs] at h
    ((try first | refine walk_aw env_ok (none) ?_ | refine walk_aw envR_ok (none) ?_); try simp -implicitDefEqProofs (maxSteps := 1000000) only [go_sem, ↓reduceIte, reduceCtorEq, Nat.reduceLT, Nat.reduceEqDiff, Nat.reduceBEq, Nat.reduceAdd, Nat.reduceMul, Nat.reduceSub, Nat.reduceLeDiff, Int.reduceNeg, Int.reduceLT, Int.reduceLE, Int.reduceEq, Int.reduceAdd, Int.reduceToNat, n3, n8, n9, n10, n11, n12, n13, n14, n15, n16, n35, n144, n147, n161, n162, n17, n145, n21, n148, n149, n40, n47, n146, n157, n158, n163, n6, n150, n151, n155, n156, n159, b0, b1, b2, b3, b4, b5, b6, b7])
    exact .inl h
  by_cases n0 : c = 146
  · have n3 : ¬ c = 3 := by omega
    have n8 : ¬ c = 8 := by omega
    have n9 : ¬ c = 9 := by omega
    have n10 : ¬ c = 10 := by omega
    have n11 : ¬ c = 11 := by omega
    have n12 : ¬ c = 12 := by omega
    have n13 : ¬ c = 13 := by omega
    have n14 : ¬ c = 14 := by omega
    have n15 : ¬ c = 15 := by omega
    have n16 : ¬ c = 16 := by omega
    have n35 : ¬ c = 35 := by omega
    have n144 : ¬ c = 144 := by omega
    have n147 : ¬ c = 147 := by omega
    have n161 : ¬ c = 161 := by omega
    have n162 : ¬ c = 162 := by omega
    have n17 : ¬ c = 17 := by omega
    have n145 : ¬ c = 145 := by omega
    have n21 : ¬ c = 21 := by omega
    have n148 : ¬ c = 148 := by omega
    have n149 : ¬ c = 149 := by omega
    have n40 : ¬ c = 40 := by omega
    have n47 : ¬ c = 47 := by omega
    have n146 : (c = 146) = True := eq_true n0
    have n157 : ¬ c = 157 := by omega
    have n158 : ¬ c = 158 := by omega
    have n163 : ¬ c = 163 := by omega
    have n6 : ¬ c = 6 := by omega
    have n150 : ¬ c = 150 := by omega
    have n151 : ¬ c = 151 := by omega
    have n155 : ¬ c = 155 := by omega
    have n156 : ¬ c = 156 := by omega
    have n159 : ¬ c = 159 := by omega
    have b0 : c ≥ 8 := by omega
    have b1 : ¬ c ≤ 15 := by omega
    have b2 : c ≥ 112 := by omega
    have b3 : ¬ c ≤ 143 := by omega
    have b4 : c ≥ 18 := by omega
    have b5 : ¬ c ≤ 46 := by omega
    have b6 : c ≥ 48 := by omega
    have b7 : ¬ c ≤ 111 := by omega
    have hs : shp c = 9 := by rw [n0]; decide
    rw [hs] at h
    ((try first | refine walk_aw env_ok (none) ?_ | refine walk_aw envR_ok (none) ?_); try simp -implicitDefEqProofs (maxSteps := 1000000) only [go_sem, ↓reduceIte, reduceCtorEq, Nat.reduceLT, Nat.reduceEqDiff, Nat.reduceBEq, Nat.reduceAdd, Nat.reduceMul, Nat.reduceSub, Nat.reduceLeDiff, Int.reduceNeg, Int.reduceLT, Int.reduceLE, Int.reduceEq, Int.reduceAdd, Int.reduceToNat, n3, n8, n9, n10, n11, n12, n13, n14, n15, n16, n35, n144, n147, n161, n162, n17, n145, n21, n148, n149, n40, n47, n146, n157, n158, n163, n6, n150, n151, n155, n156, n159, b0, b1, b2, b3, b4, b5, b6, b7])
    exact .inl h
  by_cases n0 : c = 157
  · have n3 : ¬ c = 3 := by omega
    have n8 : ¬ c = 8 := by omega
    have n9 : ¬ c = 9 := by omega
    have n10 : ¬ c = 10 := by omega
    have n11 : ¬ c = 11 := by omega
    have n12 : ¬ c = 12 := by omega
    have n13 : ¬ c = 13 := by omega
    have n14 : ¬ c = 14 := by omega
    have n15 : ¬ c = 15 := by omega
    have n16 : ¬ c = 16 := by omega
    have n35 : ¬ c = 35 := by omega
    have n144 : ¬ c = 144 := by omega
    have n147 : ¬ c = 147 := by omega
    have n161 : ¬ c = 161 := by omega
    have n162 : ¬ c = 162 := by omega
    have n17 : ¬ c = 17 := by omega
    have n145 : ¬ c = 145 := by omega
    have n21 : ¬ c = 21 := by omega
    have n148 : ¬ c = 148 := by omega
    have n149 : ¬ c = 149 := by omega
    have n40 : ¬ c = 40 := by omega
    have n47 : ¬ c = 47 := by omega
    have n146 : ¬ c = 146 := by omega
    have n157 : (c = 157) = True := eq_true n0
    have n158 : ¬ c = 158 := by omega
    have n163 : ¬ c = 163 := by omega
    have n6 : ¬ c = 6 := by omega
    have n150 : ¬ c = 150 := by omega
    have n151 : ¬ c = 151 := by omega
    have n155 : ¬ c = 155 := by omega
    have n156 : ¬ c = 156 := by omega
    have n159 : ¬ c = 159 := by omega
    have b0 : c ≥ 8 := by omega
    have b1 : ¬ c ≤ 15 := by omega
    have b2 : c ≥ 112 := by omega
    have b3 : ¬ c ≤ 143 := by omega
    have b4 : c ≥ 18 := by omega
    have b5 : ¬ c ≤ 46 := by omega
    have b6 : c ≥ 48 := by omega
    have b7 : ¬ c ≤ 111 := by omega
    have hs : shp c = 10 := by rw [n0]; decide
    rw [hs] at h
    ((try first | refine walk_aw env_ok (none) ?_ | refine walk_aw envR_ok (none) ?_); try simp -implicitDefEqProofs (maxSteps := 1000000) only [go_sem, ↓reduceIte, reduceCtorEq, Nat.reduceLT, Nat.reduceEqDiff, Nat.reduceBEq, Nat.reduceAdd, Nat.reduceMul, Nat.reduceSub, Nat.reduceLeDiff, Int.reduceNeg, Int.reduceLT, Int.reduceLE, Int.reduceEq, Int.reduceAdd, Int.reduceToNat, n3, n8, n9, n10, n11, n12, n13, n14, n15, n16, n35, n144, n147, n161, n162, n17, n145, n21, n148, n149, n40, n47, n146, n157, n158, n163, n6, n150, n151, n155, n156, n159, b0, b1, b2, b3, b4, b5, b6, b7])
    exact .inl h
  by_cases n0 : c = 158
  · have n3 : ¬ c = 3 := by omega
    have n8 : ¬ c = 8 := by omega
    have n9 : ¬ c = 9 := by omega
    have n10 : ¬ c = 10 := by omega
    have n11 : ¬ c = 11 := by omega
    have n12 : ¬ c = 12 := by omega
    have n13 : ¬ c = 13 := by omega
    have n14 : ¬ c = 14 := by omega
    have n15 : ¬ c = 15 := by omega
    have n16 : ¬ c = 16 := by omega
    have n35 : ¬ c = 35 := by omega
    have n144 : ¬ c = 144 := by omega
    have n147 : ¬ c = 147 := by omega
    have n161 : ¬ c = 161 := by omega
    have n162 : ¬ c = 162 := by omega
    have n17 : ¬ c = 17 := by omega
    have n145 : ¬ c = 145 := by omega
    have n21 : ¬ c = 21 := by omega
    have n148 : ¬ c = 148 := by omega
    have n149 : ¬ c = 149 := by omega
    have n40 : ¬ c = 40 := by omega
    have n47 : ¬ c = 47 := by omega
    have n146 : ¬ c = 146 := by omega
    have n157 : ¬ c = 157 := by omega
    have n158 : (c = 158) = True := eq_true n0
    have n163 : ¬ c = 163 := by omega
    have n6 : ¬ c = 6 := by omega
    have n150 : ¬ c = 150 := by omega
    have n151 : ¬ c = 151 := by omega
    have n155 : ¬ c = 155 := by omega
    have n156 : ¬ c = 156 := by omega
    have n159 : ¬ c = 159 := by omega
    have b0 : c ≥ 8 := by omega
    have b1 : ¬ c ≤ 15 := by omega
    have b2 : c ≥ 112 := by omega
    have b3 : ¬ c ≤ 143 := by omega
    have b4 : c ≥ 18 := by omega
    have b5 : ¬ c ≤ 46 := by omega
    have b6 : c ≥ 48 := by omega
    have b7 : ¬ c ≤ 111 := by omega
    have hs : shp c = 11 := by rw [n0]; decide
    rw [hs] at h
    ((try first | refine walk_aw env_ok (none) ?_ | refine walk_aw envR_ok (none) ?_); try simp -implicitDefEqProofs (maxSteps := 1000000) only [go_sem, ↓reduceIte, reduceCtorEq, Nat.reduceLT, Nat.reduceEqDiff, Nat.reduceBEq, Nat.reduceAdd, Nat.reduceMul, Nat.reduceSub, Nat.reduceLeDiff, Int.reduceNeg, Int.reduceLT, Int.reduceLE, Int.reduceEq, Int.reduceAdd, Int.reduceToNat, n3, n8, n9, n10, n11, n12, n13, n14, n15, n16, n35, n144, n147, n161, n162, n17, n145, n21, n148, n149, n40, n47, n146, n157, n158, n163, n6, n150, n151, n155, n156, n159, b0, b1, b2, b3, b4, b5, b6, b7])
    exact .inl h
  by_cases n0 : c = 163
  · have n3 : ¬ c = 3 := by omega
    have n8 : ¬ c = 8 := by omega
    have n9 : ¬ c = 9 := by omega
    have n10 : ¬ c = 10 := by omega
    have n11 : ¬ c = 11 := by omega
    have n12 : ¬ c = 12 := by omega
    have n13 : ¬ c = 13 := by omega
    have n14 : ¬ c = 14 := by omega
    have n15 : ¬ c = 15 := by omega
    have n16 : ¬ c = 16 := by omega
    have n35 : ¬ c = 35 := by omega
    have n144 : ¬ c = 144 := by omega
    have n147 : ¬ c = 147 := by omega
    have n161 : ¬ c = 161 := by omega
    have n162 : ¬ c = 162 := by omega
    have n17 : ¬ c = 17 := by omega
    have n145 : ¬ c = 145 := by omega
    have n21 : ¬ c = 21 := by omega
    have n148 : ¬ c = 148 := by omega
    have n149 : ¬ c = 149 := by omega
    have n40 : ¬ c = 40 := by omega
    have n47 : ¬ c = 47 := by omega
    have n146 : ¬ c = 146 := by omega
    have n157 : ¬ c = 157 := by omega
    have n158 : ¬ c = 158 := by omega
    have n163 : (c = 163) = True := eq_true n0
    have n6 : ¬ c = 6 := by omega
    have n150 : ¬ c = 150 := by omega
    have n151 : ¬ c = 151 := by omega
    have n155 : ¬ c = 155 := by omega
    have n156 : ¬ c = 156 := by omega
    have n159 : ¬ c = 159 := by omega
    have b0 : c ≥ 8 := by omega
    have b1 : ¬ c ≤ 15 := by omega
    have b2 : c ≥ 112 := by omega
    have b3 : ¬ c ≤ 143 := by omega
    have b4 : c ≥ 18 := by omega
    have b5 : ¬ c ≤ 46 := by omega
    have b6 : c ≥ 48 := by omega
    have b7 : ¬ c ≤ 111 := by omega
    have hs : shp c = 11 := by rw [n0]; decide
    rw [hs] at h
    ((try first | refine walk_aw env_ok (none) ?_ | refine walk_aw envR_ok (none) ?_); try simp -implicitDefEqProofs (maxSteps := 1000000) only [go_sem, ↓reduceIte, reduceCtorEq, Nat.reduceLT, Nat.reduceEqDiff, Nat.reduceBEq, Nat.reduceAdd, Nat.reduceMul, Nat.reduceSub, Nat.reduceLeDiff, Int.reduceNeg, Int.reduceLT, Int.reduceLE, Int.reduceEq, Int.reduceAdd, Int.reduceToNat, n3, n8, n9, n10, n11, n12, n13, n14, n15, n16, n35, n144, n147, n161, n162, n17, n145, n21, n148, n149, n40, n47, n146, n157, n158, n163, n6, n150, n151, n155, n156, n159, b0, b1, b2, b3, b4, b5, b6, b7])
    exact .inl h
  by_cases n0 : c = 6
  · have n3 : ¬ c = 3 := by omega
    have n8 : ¬ c = 8 := by omega
    have n9 : ¬ c = 9 := by omega
    have n10 : ¬ c = 10 := by omega
    have n11 : ¬ c = 11 := by omega
    have n12 : ¬ c = 12 := by omega
    have n13 : ¬ c = 13 := by omega
    have n14 : ¬ c = 14 := by omega
    have n15 : ¬ c = 15 := by omega
    have n16 : ¬ c = 16 := by omega
    have n35 : ¬ c = 35 := by omega
    have n144 : ¬ c = 144 := by omega
    have n147 : ¬ c = 147 := by omega
    have n161 : ¬ c = 161 := by omega
    have n162 : ¬ c = 162 := by omega
    have n17 : ¬ c = 17 := by omega
    have n145 : ¬ c = 145 := by omega
    have n21 : ¬ c = 21 := by omega
    have n148 : ¬ c = 148 := by omega
    have n149 : ¬ c = 149 := by omega
    have n40 : ¬ c = 40 := by omega
    have n47 : ¬ c = 47 := by omega
    have n146 : ¬ c = 146 := by omega
    have n157 : ¬ c = 157 := by omega
    have n158 : ¬ c = 158 := by omega
    have n163 : ¬ c = 163 := by omega
    have n6 : (c = 6) = True := eq_true n0
    have n150 : ¬ c = 150 := by omega
    have n151 : ¬ c = 151 := by omega
    have n155 : ¬ c = 155 := by omega
    have n156 : ¬ c = 156 := by omega
    have n159 : ¬ c = 159 := by omega
    have b0 : ¬ c ≥ 8 := by omega
    have b1 : c ≤ 15 := by omega
    have b2 : ¬ c ≥ 112 := by omega
    have b3 : c ≤ 143 := by omega
    have b4 : ¬ c ≥ 18 := by omega
    have b5 : c ≤ 46 := by omega
    have b6 : ¬ c ≥ 48 := by omega
    have b7 : c ≤ 111 := by omega
    have hs : shp c = 1 := by rw [n0]; decide
    rw [hs] at h
    ((try first | refine walk_aw env_ok (none) ?_ | refine walk_aw envR_ok (none) ?_); try simp -implicitDefEqProofs (maxSteps := 1000000) only [go_sem, ↓reduceIte, reduceCtorEq, Nat.reduceLT, Nat.reduceEqDiff, Nat.reduceBEq, Nat.reduceAdd, Nat.reduceMul, Nat.reduceSub, Nat.reduceLeDiff, Int.reduceNeg, Int.reduceLT, Int.reduceLE, Int.reduceEq, Int.reduceAdd, Int.reduceToNat, n3, n8, n9, n10, n11, n12, n13, n14, n15, n16, n35, n144, n147, n161, n162, n17, n145, n21, n148, n149, n40, n47, n146, n157, n158, n163, n6, n150, n151, n155, n156, n159, b0, b1, b2, b3, b4, b5, b6, b7])
    exact .inl h
  by_cases n0 : c = 150
  · have n3 : ¬ c = 3 := by omega
    have n8 : ¬ c = 8 := by omega
    have n9 : ¬ c = 9 := by omega
    have n10 : ¬ c = 10 := by omega
    have n11 : ¬ c = 11 := by omega
    have n12 : ¬ c = 12 := by omega
    have n13 : ¬ c = 13 := by omega
    have n14 : ¬ c = 14 := by omega
    have n15 : ¬ c = 15 := by omega
    have n16 : ¬ c = 16 := by omega
    have n35 : ¬ c = 35 := by omega
    have n144 : ¬ c = 144 := by omega
    have n147 : ¬ c = 147 := by omega
    have n161 : ¬ c = 161 := by omega
    have n162 : ¬ c = 162 := by omega
    have n17 : ¬ c = 17 := by omega
    have n145 : ¬ c = 145 := by omega
    have n21 : ¬ c = 21 := by omega
    have n148 : ¬ c = 148 := by omega
    have n149 : ¬ c = 149 := by omega
    have n40 : ¬ c = 40 := by omega
    have n47 : ¬ c = 47 := by omega
    have n146 : ¬ c = 146 := by omega
    have n157 : ¬ c = 157 := by omega
    have n158 : ¬ c = 158 := by omega
    have n163 : ¬ c = 163 := by omega
    have n6 : ¬ c = 6 := by omega
    have n150 : (c = 150) = True := eq_true n0
    have n151 : ¬ c = 151 := by omega
    have n155 : ¬ c = 155 := by omega
    have n156 : ¬ c = 156 := by omega
    have n159 : ¬ c = 159 := by omega
    have b0 : c ≥ 8 := by omega
    have b1 : ¬ c ≤ 15 := by omega
    have b2 : c ≥ 112 := by omega
    have b3 : ¬ c ≤ 143 := by omega
    have b4 : c ≥ 18 := by omega
    have b5 : ¬ c ≤ 46 := by omega
    have b6 : c ≥ 48 := by omega
    have b7 : ¬ c ≤ 111 := by omega
    have hs : shp c = 1 := by rw [n0]; decide
    rw [hs] at h
    ((try first | refine walk_aw env_ok (none) ?_ | refine walk_aw envR_ok (none) ?_); try simp -implicitDefEqProofs (maxSteps := 1000000) only [go_sem, ↓reduceIte, reduceCtorEq, Nat.reduceLT, Nat.reduceEqDiff, Nat.reduceBEq, Nat.reduceAdd, Nat.reduceMul, Nat.reduceSub, Nat.reduceLeDiff, Int.reduceNeg, Int.reduceLT, Int.reduceLE, Int.reduceEq, Int.reduceAdd, Int.reduceToNat, n3, n8, n9, n10, n11, n12, n13, n14, n15, n16, n35, n144, n147, n161, n162, n17, n145, n21, n148, n149, n40, n47, n146, n157, n158, n163, n6, n150, n151, n155, n156, n159, b0, b1, b2, b3, b4, b5, b6, b7])
    exact .inl h
  by_cases n0 : c = 151
  · have n3 : ¬ c = 3 := by omega
    have n8 : ¬ c = 8 := by omega
    have n9 : ¬ c = 9 := by omega
    have n10 : ¬ c = 10 := by omega
    have n11 : ¬ c = 11 := by omega
    have n12 : ¬ c = 12 := by omega
    have n13 : ¬ c = 13 := by omega
    have n14 : ¬ c = 14 := by omega
    have n15 : ¬ c = 15 := by omega
    have n16 : ¬ c = 16 := by omega
    have n35 : ¬ c = 35 := by omega
    have n144 : ¬ c = 144 := by omega
    have n147 : ¬ c = 147 := by omega
    have n161 : ¬ c = 161 := by omega
    have n162 : ¬ c = 162 := by omega
    have n17 : ¬ c = 17 := by omega
    have n145 : ¬ c = 145 := by omega
    have n21 : ¬ c = 21 := by omega
    have n148 : ¬ c = 148 := by omega
    have n149 : ¬ c = 149 := by omega
    have n40 : ¬ c = 40 := by omega
    have n47 : ¬ c = 47 := by omega
    have n146 : ¬ c = 146 := by omega
    have n157 : ¬ c = 157 := by omega
    have n158 : ¬ c = 158 := by omega
    have n163 : ¬ c = 163 := by omega
    have n6 : ¬ c = 6 := by omega
    have n150 : ¬ c = 150 := by omega
    have n151 : (c = 151) = True := eq_true n0
    have n155 : ¬ c = 155 := by omega
    have n156 : ¬ c = 156 := by omega
    have n159 : ¬ c = 159 := by omega
    have b0 : c ≥ 8 := by omega
    have b1 : ¬ c ≤ 15 := by omega
    have b2 : c ≥ 112 := by omega
    have b3 : ¬ c ≤ 143 := by omega
    have b4 : c ≥ 18 := by omega
    have b5 : ¬ c ≤ 46 := by omega
    have b6 : c ≥ 48 := by omega
    have b7 : ¬ c ≤ 111 := by omega
    have hs : shp c = 1 := by rw [n0]; decide
    rw [hs] at h
    ((try first | refine walk_aw env_ok (none) ?_ | refine walk_aw envR_ok (none) ?_); try simp -implicitDefEqProofs (maxSteps := 1000000) only [go_sem, ↓reduceIte, reduceCtorEq, Nat.reduceLT, Nat.reduceEqDiff, Nat.reduceBEq, Nat.reduceAdd, Nat.reduceMul, Nat.reduceSub, Nat.reduceLeDiff, Int.reduceNeg, Int.reduceLT, Int.reduceLE, Int.reduceEq, Int.reduceAdd, Int.reduceToNat, n3, n8, n9, n10, n11, n12, n13, n14, n15, n16, n35, n144, n147, n161, n162, n17, n145, n21, n148, n149, n40, n47, n146, n157, n158, n163, n6, n150, n151, n155, n156, n159, b0, b1, b2, b3, b4, b5, b6, b7])
    exact .inl h
  by_cases n0 : c = 155
  · have n3 : ¬ c = 3 := by omega
    have n8 : ¬ c = 8 := by omega
    have n9 : ¬ c = 9 := by omega
    have n10 : ¬ c = 10 := by omega
    have n11 : ¬ c = 11 := by omega
    have n12 : ¬ c = 12 := by omega
    have n13 : ¬ c = 13 := by omega
    have n14 : ¬ c = 14 := by omega
    have n15 : ¬ c = 15 := by omega
    have n16 : ¬ c = 16 := by omega
    have n35 : ¬ c = 35 := by omega
    have n144 : ¬ c = 144 := by omega
    have n147 : ¬ c = 147 := by omega
    have n161 : ¬ c = 161 := by omega
    have n162 : ¬ c = 162 := by omega
    have n17 : ¬ c = 17 := by omega
    have n145 : ¬ c = 145 := by omega
    have n21 : ¬ c = 21 := by omega
    have n148 : ¬ c = 148 := by omega
    have n149 : ¬ c = 149 := by omega
    have n40 : ¬ c = 40 := by omega
    have n47 : ¬ c = 47 := by omega
    have n146 : ¬ c = 146 := by omega
    have n157 : ¬ c = 157 := by omega
    have n158 : ¬ c = 158 := by omega
    have n163 : ¬ c = 163 := by omega
    have n6 : ¬ c = 6 := by omega
    have n150 : ¬ c = 150 := by omega
    have n151 : ¬ c = 151 := by omega
    have n155 : (c = 155) = True := eq_true n0
    have n156 : ¬ c = 156 := by omega
    have n159 : ¬ c = 159 := by omega
    have b0 : c ≥ 8 := by omega
    have b1 : ¬ c ≤ 15 := by omega
    have b2 : c ≥ 112 := by omega
    have b3 : ¬ c ≤ 143 := by omega
    have b4 : c ≥ 18 := by omega
    have b5 : ¬ c ≤ 46 := by omega
    have b6 : c ≥ 48 := by omega
    have b7 : ¬ c ≤ 111 := by omega
    have hs : shp c = 1 := by rw [n0]; decide
    rw [hs] at h
    ((try first | refine walk_aw env_ok (none) ?_ | refine walk_aw envR_ok (none) ?_); try simp -implicitDefEqProofs (maxSteps := 1000000) only [go_sem, ↓reduceIte, reduceCtorEq, Nat.reduceLT, Nat.reduceEqDiff, Nat.reduceBEq, Nat.reduceAdd, Nat.reduceMul, Nat.reduceSub, Nat.reduceLeDiff, Int.reduceNeg, Int.reduceLT, Int.reduceLE, Int.reduceEq, Int.reduceAdd, Int.reduceToNat, n3, n8, n9, n10, n11, n12, n13, n14, n15, n16, n35, n144, n147, n161, n162, n17, n145, n21, n148, n149, n40, n47, n146, n157, n158, n163, n6, n150, n151, n155, n156, n159, b0, b1, b2, b3, b4, b5, b6, b7])
    exact .inl h
  by_cases n0 : c = 156
  · have n3 : ¬ c = 3 := by omega
    have n8 : ¬ c = 8 := by omega
    have n9 : ¬ c = 9 := by omega
    have n10 : ¬ c = 10 := by omega
    have n11 : ¬ c = 11 := by omega
    have n12 : ¬ c = 12 := by omega
    have n13 : ¬ c = 13 := by omega
    have n14 : ¬ c = 14 := by omega
    have n15 : ¬ c = 15 := by omega
    have n16 : ¬ c = 16 := by omega
    have n35 : ¬ c = 35 := by omega
    have n144 : ¬ c = 144 := by omega
    have n147 : ¬ c = 147 := by omega
    have n161 : ¬ c = 161 := by omega
    have n162 : ¬ c = 162 := by omega
    have n17 : ¬ c = 17 := by omega
    have n145 : ¬ c = 145 := by omega
    have n21 : ¬ c = 21 := by omega
    have n148 : ¬ c = 148 := by omega
    have n149 : ¬ c = 149 := by omega
    have n40 : ¬ c = 40 := by omega
    have n47 : ¬ c = 47 := by omega
    have n146 : ¬ c = 146 := by omega
    have n157 : ¬ c = 157 := by omega
    have n158 : ¬ c = 158 := by omega
    have n163 : ¬ c = 163 := by omega
    have n6 : ¬ c = 6 := by omega
    have n150 : ¬ c = 150 := by omega
    have n151 : ¬ c = 151 := by omega
    have n155 : ¬ c = 155 := by omega
    have n156 : (c = 156) = True := eq_true n0
    have n159 : ¬ c = 159 := by omega
    have b0 : c ≥ 8 := by omega
    have b1 : ¬ c ≤ 15 := by omega
    have b2 : c ≥ 112 := by omega
    have b3 : ¬ c ≤ 143 := by omega
    have b4 : c ≥ 18 := by omega
    have b5 : ¬ c ≤ 46 := by omega
    have b6 : c ≥ 48 := by omega
    have b7 : ¬ c ≤ 111 := by omega
    have hs : shp c = 1 := by rw [n0]; decide
    rw [hs] at h
    ((try first | refine walk_aw env_ok (none) ?_ | refine walk_aw envR_ok (none) ?_); try simp -implicitDefEqProofs (maxSteps := 1000000) only [go_sem, ↓reduceIte, reduceCtorEq, Nat.reduceLT, Nat.reduceEqDiff, Nat.reduceBEq, Nat.reduceAdd, Nat.reduceMul, Nat.reduceSub, Nat.reduceLeDiff, Int.reduceNeg, Int.reduceLT, Int.reduceLE, Int.reduceEq, Int.reduceAdd, Int.reduceToNat, n3, n8, n9, n10, n11, n12, n13, n14, n15, n16, n35, n144, n147, n161, n162, n17, n145, n21, n148, n149, n40, n47, n146, n157, n158, n163, n6, n150, n151, n155, n156, n159, b0, b1, b2, b3, b4, b5, b6, b7])
    exact .inl h
  by_cases n0 : c = 159
  · have n3 : ¬ c = 3 := by omega
    have n8 : ¬ c = 8 := by omega
    have n9 : ¬ c = 9 := by omega
    have n10 : ¬ c = 10 := by omega
    have n11 : ¬ c = 11 := by omega
    have n12 : ¬ c = 12 := by omega
    have n13 : ¬ c = 13 := by omega
    have n14 : ¬ c = 14 := by omega
    have n15 : ¬ c = 15 := by omega
    have n16 : ¬ c = 16 := by omega
    have n35 : ¬ c = 35 := by omega
    have n144 : ¬ c = 144 := by omega
    have n147 : ¬ c = 147 := by omega
    have n161 : ¬ c = 161 := by omega
    have n162 : ¬ c = 162 := by omega
    have n17 : ¬ c = 17 := by omega
    have n145 : ¬ c = 145 := by omega
    have n21 : ¬ c = 21 := by omega
    have n148 : ¬ c = 148 := by omega
    have n149 : ¬ c = 149 := by omega
    have n40 : ¬ c = 40 := by omega
    have n47 : ¬ c = 47 := by omega
    have n146 : ¬ c = 146 := by omega
    have n157 : ¬ c = 157 := by omega
    have n158 : ¬ c = 158 := by omega
    have n163 : ¬ c = 163 := by omega
    have n6 : ¬ c = 6 := by omega
    have n150 : ¬ c = 150 := by omega
    have n151 : ¬ c = 151 := by omega
    have n155 : ¬ c = 155 := by omega
    have n156 : ¬ c = 156 := by omega
    have n159 : (c = 159) = True := eq_true n0
    have b0 : c ≥ 8 := by omega
    have b1 : ¬ c ≤ 15 := by omega
    have b2 : c ≥ 112 := by omega
    have b3 : ¬ c ≤ 143 := by omega
    have b4 : c ≥ 18 := by omega
    have b5 : ¬ c ≤ 46 := by omega
    have b6 : c ≥ 48 := by omega
    have b7 : ¬ c ≤ 111 := by omega
    have hs : shp c = 1 := by rw [n0]; decide
    rw [hs] at h
    ((try first | refine walk_aw env_ok (none) ?_ | refine walk_aw envR_ok (none) ?_); try simp -implicitDefEqProofs (maxSteps := 1000000) only [go_sem, ↓reduceIte, reduceCtorEq, Nat.reduceLT, Nat.reduceEqDiff, Nat.reduceBEq, Nat.reduceAdd, Nat.reduceMul, Nat.reduceSub, Nat.reduceLeDiff, Int.reduceNeg, Int.reduceLT, Int.reduceLE, Int.reduceEq, Int.reduceAdd, Int.reduceToNat, n3, n8, n9, n10, n11, n12, n13, n14, n15, n16, n35, n144, n147, n161, n162, n17, n145, n21, n148, n149, n40, n47, n146, n157, n158, n163, n6, n150, n151, n155, n156, n159, b0, b1, b2, b3, b4, b5, b6, b7])
    exact .inl h
  by_cases n0_32 : c ≤ 7
  · have n3 : ¬ c = 3 := by omega
    have n8 : ¬ c = 8 := by omega
    have n9 : ¬ c = 9 := by omega
    have n10 : ¬ c = 10 := by omega
    have n11 : ¬ c = 11 := by omega
    have n12 : ¬ c = 12 := by omega
    have n13 : ¬ c = 13 := by omega
    have n14 : ¬ c = 14 := by omega
    have n15 : ¬ c = 15 := by omega
    have n16 : ¬ c = 16 := by omega
    have n35 : ¬ c = 35 := by omega
    have n144 : ¬ c = 144 := by omega
    have n147 : ¬ c = 147 := by omega
    have n161 : ¬ c = 161 := by omega
    have n162 : ¬ c = 162 := by omega
    have n17 : ¬ c = 17 := by omega
    have n145 : ¬ c = 145 := by omega
    have n21 : ¬ c = 21 := by omega
    have n148 : ¬ c = 148 := by omega
    have n149 : ¬ c = 149 := by omega
    have n40 : ¬ c = 40 := by omega
    have n47 : ¬ c = 47 := by omega
    have n146 : ¬ c = 146 := by omega
    have n157 : ¬ c = 157 := by omega
    have n158 : ¬ c = 158 := by omega
    have n163 : ¬ c = 163 := by omega
    have n6 : ¬ c = 6 := by omega
    have n150 : ¬ c = 150 := by omega
    have n151 : ¬ c = 151 := by omega
    have n155 : ¬ c = 155 := by omega
    have n156 : ¬ c = 156 := by omega
    have n159 : ¬ c = 159 := by omega
    have b0 : ¬ c ≥ 8 := by omega
    have b1 : c ≤ 15 := by omega
    have b2 : ¬ c ≥ 112 := by omega
    have b3 : c ≤ 143 := by omega
    have b4 : ¬ c ≥ 18 := by omega
    have b5 : c ≤ 46 := by omega
    have b6 : ¬ c ≥ 48 := by omega
    have b7 : c ≤ 111 := by omega
    have hs : shp c = 0 := by
      unfold shp
      repeat (first | (rw [if_neg (by omega)]) | (rw [if_pos (by omega)]))
    rw [hs] at h
    ((try first | refine walk_aw env_ok (none) ?_ | refine walk_aw envR_ok (none) ?_); try simp -implicitDefEqProofs (maxSteps := 1000000) only [go_sem, ↓reduceIte, reduceCtorEq, Nat.reduceLT, Nat.reduceEqDiff, Nat.reduceBEq, Nat.reduceAdd, Nat.reduceMul, Nat.reduceSub, Nat.reduceLeDiff, Int.reduceNeg, Int.reduceLT, Int.reduceLE, Int.reduceEq, Int.reduceAdd, Int.reduceToNat, n3, n8, n9, n10, n11, n12, n13, n14, n15, n16, n35, n144, n147, n161, n162, n17, n145, n21, n148, n149, n40, n47, n146, n157, n158, n163, n6, n150, n151, n155, n156, n159, b0, b1, b2, b3, b4, b5, b6, b7])
    exact .inl h
  by_cases n0_33 : c ≤ 46
  · have n3 : ¬ c = 3 := by omega
    have n8 : ¬ c = 8 := by omega
    have n9 : ¬ c = 9 := by omega
    have n10 : ¬ c = 10 := by omega
    have n11 : ¬ c = 11 := by omega
    have n12 : ¬ c = 12 := by omega
    have n13 : ¬ c = 13 := by omega
    have n14 : ¬ c = 14 := by omega
    have n15 : ¬ c = 15 := by omega
    have n16 : ¬ c = 16 := by omega
    have n35 : ¬ c = 35 := by omega
    have n144 : ¬ c = 144 := by omega
    have n147 : ¬ c = 147 := by omega
    have n161 : ¬ c = 161 := by omega
    have n162 : ¬ c = 162 := by omega
    have n17 : ¬ c = 17 := by omega
    have n145 : ¬ c = 145 := by omega
    have n21 : ¬ c = 21 := by omega
    have n148 : ¬ c = 148 := by omega
    have n149 : ¬ c = 149 := by omega
    have n40 : ¬ c = 40 := by omega
    have n47 : ¬ c = 47 := by omega
    have n146 : ¬ c = 146 := by omega
    have n157 : ¬ c = 157 := by omega
    have n158 : ¬ c = 158 := by omega
    have n163 : ¬ c = 163 := by omega
    have n6 : ¬ c = 6 := by omega
    have n150 : ¬ c = 150 := by omega
    have n151 : ¬ c = 151 := by omega
    have n155 : ¬ c = 155 := by omega
    have n156 : ¬ c = 156 := by omega
    have n159 : ¬ c = 159 := by omega
    have b0 : c ≥ 8 := by omega
    have b1 : ¬ c ≤ 15 := by omega
    have b2 : ¬ c ≥ 112 := by omega
    have b3 : c ≤ 143 := by omega
    have b4 : c ≥ 18 := by omega
    have b5 : c ≤ 46 := by omega
    have b6 : ¬ c ≥ 48 := by omega
    have b7 : c ≤ 111 := by omega
    have hs : shp c = 1 := by
      unfold shp
      repeat (first | (rw [if_neg (by omega)]) | (rw [if_pos (by omega)]))
    rw [hs] at h
    ((try first | refine walk_aw env_ok (none) ?_ | refine walk_aw envR_ok (none) ?_); try simp -implicitDefEqProofs (maxSteps := 1000000) only [go_sem, ↓reduceIte, reduceCtorEq, Nat.reduceLT, Nat.reduceEqDiff, Nat.reduceBEq, Nat.reduceAdd, Nat.reduceMul, Nat.reduceSub, Nat.reduceLeDiff, Int.reduceNeg, Int.reduceLT, Int.reduceLE, Int.reduceEq, Int.reduceAdd, Int.reduceToNat, n3, n8, n9, n10, n11, n12, n13, n14, n15, n16, n35, n144, n147, n161, n162, n17, n145, n21, n148, n149, n40, n47, n146, n157, n158, n163, n6, n150, n151, n155, n156, n159, b0, b1, b2, b3, b4, b5, b6, b7])
    exact .inl h
  by_cases n0_34 : c ≤ 111
  · have n3 : ¬ c = 3 := by omega
    have n8 : ¬ c = 8 := by omega
    have n9 : ¬ c = 9 := by omega
    have n10 : ¬ c = 10 := by omega
    have n11 : ¬ c = 11 := by omega
    have n12 : ¬ c = 12 := by omega
    have n13 : ¬ c = 13 := by omega
    have n14 : ¬ c = 14 := by omega
    have n15 : ¬ c = 15 := by omega
    have n16 : ¬ c = 16 := by omega
    have n35 : ¬ c = 35 := by omega
    have n144 : ¬ c = 144 := by omega
    have n147 : ¬ c = 147 := by omega
    have n161 : ¬ c = 161 := by omega
    have n162 : ¬ c = 162 := by omega
    have n17 : ¬ c = 17 := by omega
    have n145 : ¬ c = 145 := by omega
    have n21 : ¬ c = 21 := by omega
    have n148 : ¬ c = 148 := by omega
    have n149 : ¬ c = 149 := by omega
    have n40 : ¬ c = 40 := by omega
    have n47 : ¬ c = 47 := by omega
    have n146 : ¬ c = 146 := by omega
    have n157 : ¬ c = 157 := by omega
    have n158 : ¬ c = 158 := by omega
    have n163 : ¬ c = 163 := by omega
    have n6 : ¬ c = 6 := by omega
    have n150 : ¬ c = 150 := by omega
    have n151 : ¬ c = 151 := by omega
    have n155 : ¬ c = 155 := by omega
    have n156 : ¬ c = 156 := by omega
    have n159 : ¬ c = 159 := by omega
    have b0 : c ≥ 8 := by omega
    have b1 : ¬ c ≤ 15 := by omega
    have b2 : ¬ c ≥ 112 := by omega
    have b3 : c ≤ 143 := by omega
    have b4 : c ≥ 18 := by omega
    have b5 : ¬ c ≤ 46 := by omega
    have b6 : c ≥ 48 := by omega
    have b7 : c ≤ 111 := by omega
    have hs : shp c = 1 := by
      unfold shp
      repeat (first | (rw [if_neg (by omega)]) | (rw [if_pos (by omega)]))
    rw [hs] at h
    ((try first | refine walk_aw env_ok (none) ?_ | refine walk_aw envR_ok (none) ?_); try simp -implicitDefEqProofs (maxSteps := 1000000) only [go_sem, ↓reduceIte, reduceCtorEq, Nat.reduceLT, Nat.reduceEqDiff, Nat.reduceBEq, Nat.reduceAdd, Nat.reduceMul, Nat.reduceSub, Nat.reduceLeDiff, Int.reduceNeg, Int.reduceLT, Int.reduceLE, Int.reduceEq, Int.reduceAdd, Int.reduceToNat, n3, n8, n9, n10, n11, n12, n13, n14, n15, n16, n35, n144, n147, n161, n162, n17, n145, n21, n148, n149, n40, n47, n146, n157, n158, n163, n6, n150, n151, n155, n156, n159, b0, b1, b2, b3, b4, b5, b6, b7])
    exact .inl h
  by_cases n0_35 : c ≤ 143
  · have n3 : ¬ c = 3 := by omega
    have n8 : ¬ c = 8 := by omega
    have n9 : ¬ c = 9 := by omega
    have n10 : ¬ c = 10 := by omega
    have n11 : ¬ c = 11 := by omega
    have n12 : ¬ c = 12 := by omega
    have n13 : ¬ c = 13 := by omega
    have n14 : ¬ c = 14 := by omega
    have n15 : ¬ c = 15 := by omega
    have n16 : ¬ c = 16 := by omega
    have n35 : ¬ c = 35 := by omega
    have n144 : ¬ c = 144 := by omega
    have n147 : ¬ c = 147 := by omega
    have n161 : ¬ c = 161 := by omega
    have n162 : ¬ c = 162 := by omega
    have n17 : ¬ c = 17 := by omega
    have n145 : ¬ c = 145 := by omega
    have n21 : ¬ c = 21 := by omega
    have n148 : ¬ c = 148 := by omega
    have n149 : ¬ c = 149 := by omega
    have n40 : ¬ c = 40 := by omega
    have n47 : ¬ c = 47 := by omega
    have n146 : ¬ c = 146 := by omega
    have n157 : ¬ c = 157 := by omega
    have n158 : ¬ c = 158 := by omega
    have n163 : ¬ c = 163 := by omega
    have n6 : ¬ c = 6 := by omega
    have n150 : ¬ c = 150 := by omega
    have n151 : ¬ c = 151 := by omega
    have n155 : ¬ c = 155 := by omega
    have n156 : ¬ c = 156 := by omega
    have n159 : ¬ c = 159 := by omega
    have b0 : c ≥ 8 := by omega
    have b1 : ¬ c ≤ 15 := by omega
    have b2 : c ≥ 112 := by omega
    have b3 : c ≤ 143 := by omega
    have b4 : c ≥ 18 := by omega
    have b5 : ¬ c ≤ 46 := by omega
    have b6 : c ≥ 48 := by omega
    have b7 : ¬ c ≤ 111 := by omega
    have hs : shp c = 6 := by
      unfold shp
      repeat (first | (rw [if_neg (by omega)]) | (rw [if_pos (by omega)]))
    rw [hs] at h
    ((try first | refine walk_aw env_ok (none) ?_ | refine walk_aw envR_ok (none) ?_); try simp -implicitDefEqProofs (maxSteps := 1000000) only [go_sem, ↓reduceIte, reduceCtorEq, Nat.reduceLT, Nat.reduceEqDiff, Nat.reduceBEq, Nat.reduceAdd, Nat.reduceMul, Nat.reduceSub, Nat.reduceLeDiff, Int.reduceNeg, Int.reduceLT, Int.reduceLE, Int.reduceEq, Int.reduceAdd, Int.reduceToNat, n3, n8, n9, n10, n11, n12, n13, n14, n15, n16, n35, n144, n147, n161, n162, n17, n145, n21, n148, n149, n40, n47, n146, n157, n158, n163, n6, n150, n151, n155, n156, n159, b0, b1, b2, b3, b4, b5, b6, b7])
    exact .inl h
  have n3 : ¬ c = 3 := by omega
  have n8 : ¬ c = 8 := by omega
  have n9 : ¬ c = 9 := by omega
  have n10 : ¬ c = 10 := by omega
  have n11 : ¬ c = 11 := by omega
  have n12 : ¬ c = 12 := by omega
  have n13 : ¬ c = 13 := by omega
  have n14 : ¬ c = 14 := by omega
  have n15 : ¬ c = 15 := by omega
  have n16 : ¬ c = 16 := by omega
  have n35 : ¬ c = 35 := by omega
  have n144 : ¬ c = 144 := by omega
  have n147 : ¬ c = 147 := by omega
  have n161 : ¬ c = 161 := by omega
  have n162 : ¬ c = 162 := by omega
  have n17 : ¬ c = 17 := by omega
  have n145 : ¬ c = 145 := by omega
  have n21 : ¬ c = 21 := by omega
  have n148 : ¬ c = 148 := by omega
  have n149 : ¬ c = 149 := by omega
  have n40 : ¬ c = 40 := by omega
  have n47 : ¬ c = 47 := by omega
  have n146 : ¬ c = 146 := by omega
  have n157 : ¬ c = 157 := by omega
  have n158 : ¬ c = 158 := by omega
  have n163 : ¬ c = 163 := by omega
  have n6 : ¬ c = 6 := by omega
  have n150 : ¬ c = 150 := by omega
  have n151 : ¬ c = 151 := by omega
  have n155 : ¬ c = 155 := by omega
  have n156 : ¬ c = 156 := by omega
  have n159 : ¬ c = 159 := by omega
  have b0 : c ≥ 8 := by omega
  have b1 : ¬ c ≤ 15 := by omega
  have b2 : c ≥ 112 := by omega
  have b3 : ¬ c ≤ 143 := by omega
  have b4 : c ≥ 18 := by omega
  have b5 : ¬ c ≤ 46 := by omega
  have b6 : c ≥ 48 := by omega
  have b7 : ¬ c ≤ 111 := by omega
  have hs : shp c = 0 := by
    unfold shp
    repeat (first | (rw [if_neg (by omega)]) | (rw [if_pos (by omega)]))
  rw [hs] at h
  ((try first | refine walk_aw env_ok (none) ?_ | refine walk_aw envR_ok (none) ?_); try simp -implicitDefEqProofs (maxSteps := 1000000) only [go_sem, ↓reduceIte, reduceCtorEq, Nat.reduceLT, Nat.reduceEqDiff, Nat.reduceBEq, Nat.reduceAdd, Nat.reduceMul, Nat.reduceSub, Nat.reduceLeDiff, Int.reduceNeg, Int.reduceLT, Int.reduceLE, Int.reduceEq, Int.reduceAdd, Int.reduceToNat, n3, n8, n9, n10, n11, n12, n13, n14, n15, n16, n35, n144, n147, n161, n162, n17, n145, n21, n148, n149, n40, n47, n146, n157, n158, n163, n6, n150, n151, n155, n156, n159, b0, b1, b2, b3, b4, b5, b6, b7])
  exact .inl h
end
end Go.Ab
end
