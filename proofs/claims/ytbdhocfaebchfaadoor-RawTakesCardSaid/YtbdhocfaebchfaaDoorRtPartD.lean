/- Contracts of the functions that the law reaches. -/
import Derived.Test.YtbdhocfaebchfaaDoorRtPartC
import Derived.Test.YtbdhocfaebchfaaDoorRtLAbTree
import Derived.Test.YtbdhocfaebchfaaDoorRtLAbRead
import Derived.Test.YtbdhocfaebchfaaDoorRtLAbLaid
import Derived.Test.YtbdhocfaebchfaaDoorRows
import Derived.MakeChecks
set_option linter.all false
set_option linter.unusedSimpArgs false
set_option linter.unusedVariables false
set_option linter.unnecessarySimpa false
section
/- The law RawTakes answers true. -/
namespace Go.Ab
open V Go.Proofs
set_option maxHeartbeats 8000000
set_option maxRecDepth 10000
set_option linter.unusedSimpArgs false
set_option linter.unusedVariables false

theorem AW.post {E : Env} {c : Code} {Q : X → St → Prop} {st : St} {J : St → Prop} (h : AW E c (fun x st => x = .normal ∧ J st) st) (hJ : ∀ st, J st → Q .normal st) : AW E c Q st :=
  h.mono (by rintro x st ⟨rfl, h⟩; exact hJ st h)
section
variable {H : Heap} {Q : A → Heap → Prop}
theorem RawTakes_spec {b : List UInt8} {at_ f i : Int} {w : Bool} (h : Q (.bool true) H) : AC Tryd.prog 3 [.sl (bA b) none (), .agg [.int .i64 at_, .int .i64 f, .int .i64 i], .bool w] H Q := by
  refine AC.enter (E := env Tryd.prog 68 (fun _ => .copy) (fun _ => false)) env_ok Tryd.func3 rfl rfl rfl (by simp only [List.length_cons, List.length_nil]; exact of_decide_eq_true rfl) ?_
  ((try first | refine walk_aw env_ok (none) ?_ | refine walk_aw envR_ok (none) ?_); try simp -implicitDefEqProofs (maxSteps := 1000000) only [go_sem, ↓reduceIte, reduceCtorEq, Nat.reduceLT, Nat.reduceEqDiff, Nat.reduceBEq, Nat.reduceAdd, Nat.reduceMul, Nat.reduceSub, Nat.reduceLeDiff, Int.reduceNeg, Int.reduceLT, Int.reduceLE, Int.reduceEq, Int.reduceAdd, Int.reduceToNat])
  by_cases c1 : (b.length : Int) > 3000
  · ((try first | refine walk_aw env_ok (none) ?_ | refine walk_aw envR_ok (none) ?_); try simp -implicitDefEqProofs (maxSteps := 1000000) only [go_sem, ↓reduceIte, reduceCtorEq, Nat.reduceLT, Nat.reduceEqDiff, Nat.reduceBEq, Nat.reduceAdd, Nat.reduceMul, Nat.reduceSub, Nat.reduceLeDiff, Int.reduceNeg, Int.reduceLT, Int.reduceLE, Int.reduceEq, Int.reduceAdd, Int.reduceToNat, c1])
    refine works14_spec ?_
    ((try first | refine walk_aw env_ok (none) ?_ | refine walk_aw envR_ok (none) ?_); try simp -implicitDefEqProofs (maxSteps := 1000000) only [go_sem, ↓reduceIte, reduceCtorEq, Nat.reduceLT, Nat.reduceEqDiff, Nat.reduceBEq, Nat.reduceAdd, Nat.reduceMul, Nat.reduceSub, Nat.reduceLeDiff, Int.reduceNeg, Int.reduceLT, Int.reduceLE, Int.reduceEq, Int.reduceAdd, Int.reduceToNat])
    exact .inr h
  have hb : b.length < 140737488355328 := by omega
  ((try first | refine walk_aw env_ok (none) ?_ | refine walk_aw envR_ok (none) ?_); try simp -implicitDefEqProofs (maxSteps := 1000000) only [go_sem, ↓reduceIte, reduceCtorEq, Nat.reduceLT, Nat.reduceEqDiff, Nat.reduceBEq, Nat.reduceAdd, Nat.reduceMul, Nat.reduceSub, Nat.reduceLeDiff, Int.reduceNeg, Int.reduceLT, Int.reduceLE, Int.reduceEq, Int.reduceAdd, Int.reduceToNat, c1])
  refine New_spec hb ?_
  ((try first | refine walk_aw env_ok (none) ?_ | refine walk_aw envR_ok (none) ?_); try simp -implicitDefEqProofs (maxSteps := 1000000) only [go_sem, ↓reduceIte, reduceCtorEq, Nat.reduceLT, Nat.reduceEqDiff, Nat.reduceBEq, Nat.reduceAdd, Nat.reduceMul, Nat.reduceSub, Nat.reduceLeDiff, Int.reduceNeg, Int.reduceLT, Int.reduceLE, Int.reduceEq, Int.reduceAdd, Int.reduceToNat])
  have hok : (CS.mk b 0 0).Ok := ⟨by simp, by simp only; omega, by simp, by simp⟩
  have hr1 : ([V.sl (bA b) none (), .int .i64 0, .int .i64 0] : List A) = (CS.mk b 0 0).ref := rfl
  refine AW.post (J := fun st => st.σ 4 = .ptr (some (H.length, 0)) ∧ st.σ 7 = .ptr (some (H.length + 1, 0)) ∧ st.σ 8 = .ptr (some (H.length + 2, 0)) ∧
      (match st.σ 9, st.σ 10 with
        | .ptr (some (i9, 0)), .ptr (some (i10, 0)) => st.H[i9]? = some (.cells (rawTake ⟨b, 0, 0⟩ f i w).1.cells) ∧ st.H[i10]? = some (.cells (rawTake ⟨b, 0, 0⟩ f i w).1.cells)
        | _, _ => False) ∧
      st.H[H.length]? = some (.cells [.int .i64 at_, .int .i64 f, .int .i64 i]) ∧ st.H[H.length + 1]? = some (.cells (rawTake ⟨b, 0, 0⟩ f i w).2.cur) ∧ st.H[H.length + 2]? = some (.cells (rawTake ⟨b, 0, 0⟩ f i w).2.ref) ∧
      st.H.take H.length = H) ?_ ?_
  · refine AW.tree env_ok [0, 0, 0, 7, 0, 0, 0, 127, 0, 0, 1023, 2047] [0, 1, 2, 4, 5, 6] [3, 7, 8, 9, 10, 11] (.alt 3 [4, 5, 6] [] (.alt 7 [] [] (.alt 8 [0, 1, 2, 4, 5, 6] [] (.alt 9 [0, 1, 2, 4, 5, 6] [] (.alt 10 [] [] (.alt 11 [] [] .leaf .leaf) .leaf) .leaf) (.alt 9 [0, 1, 2, 4, 5, 6] [] (.alt 8 [0, 1, 2, 4, 5, 6] [] (.alt 10 [] [] (.alt 11 [] [] .leaf .leaf) .leaf) .leaf) .leaf)) (.alt 8 [0, 1, 2, 4, 5, 6] [] (.alt 7 [] [] (.alt 9 [0, 1, 2, 4, 5, 6] [] (.alt 10 [] [] (.alt 11 [] [] .leaf .leaf) .leaf) .leaf) (.alt 9 [0, 1, 2, 4, 5, 6] [] (.alt 7 [] [] (.alt 10 [] [] (.alt 11 [] [] .leaf .leaf) .leaf) .leaf) .leaf)) (.alt 9 [0, 1, 2, 4, 5, 6] [] (.alt 7 [] [] (.alt 8 [0, 1, 2, 4, 5, 6] [] (.alt 10 [] [] (.alt 11 [] [] .leaf .leaf) .leaf) .leaf) (.alt 8 [0, 1, 2, 4, 5, 6] [] (.alt 7 [] [] (.alt 10 [] [] (.alt 11 [] [] .leaf .leaf) .leaf) .leaf) .leaf)) .leaf))) (.alt 8 [0, 1, 2, 4, 5, 6] [] (.alt 3 [4, 5, 6] [] (.alt 7 [] [] (.alt 9 [0, 1, 2, 4, 5, 6] [] (.alt 10 [] [] (.alt 11 [] [] .leaf .leaf) .leaf) .leaf) (.alt 9 [0, 1, 2, 4, 5, 6] [] (.alt 7 [] [] (.alt 10 [] [] (.alt 11 [] [] .leaf .leaf) .leaf) .leaf) .leaf)) (.alt 9 [0, 1, 2, 4, 5, 6] [] (.alt 3 [4, 5, 6] [] (.alt 7 [] [] (.alt 10 [] [] (.alt 11 [] [] .leaf .leaf) .leaf) .leaf) .leaf) .leaf)) (.alt 9 [0, 1, 2, 4, 5, 6] [] (.alt 3 [4, 5, 6] [] (.alt 7 [] [] (.alt 8 [0, 1, 2, 4, 5, 6] [] (.alt 10 [] [] (.alt 11 [] [] .leaf .leaf) .leaf) .leaf) (.alt 8 [0, 1, 2, 4, 5, 6] [] (.alt 7 [] [] (.alt 10 [] [] (.alt 11 [] [] .leaf .leaf) .leaf) .leaf) .leaf)) (.alt 8 [0, 1, 2, 4, 5, 6] [] (.alt 3 [4, 5, 6] [] (.alt 7 [] [] (.alt 10 [] [] (.alt 11 [] [] .leaf .leaf) .leaf) .leaf) .leaf) .leaf)) .leaf))) mixed (by decide) ?_
    ((try first | refine walk_aw env_ok (none) ?_ | refine walk_aw envR_ok (none) ?_); try simp -implicitDefEqProofs (maxSteps := 1000000) only [go_sem, ↓reduceIte, reduceCtorEq, Nat.reduceLT, Nat.reduceEqDiff, Nat.reduceBEq, Nat.reduceAdd, Nat.reduceMul, Nat.reduceSub, Nat.reduceLeDiff, Int.reduceNeg, Int.reduceLT, Int.reduceLE, Int.reduceEq, Int.reduceAdd, Int.reduceToNat])
    repeat' (first | (refine And.intro ?_ ?_) | (refine Take_spec (s := ⟨b, 0, 0⟩) hok hb (app_get ..) ?_; ((try first | refine walk_aw env_ok (none) ?_ | refine walk_aw envR_ok (none) ?_); try simp -implicitDefEqProofs (maxSteps := 1000000) only [go_sem, ↓reduceIte, reduceCtorEq, Nat.reduceLT, Nat.reduceEqDiff, Nat.reduceBEq, Nat.reduceAdd, Nat.reduceMul, Nat.reduceSub, Nat.reduceLeDiff, Int.reduceNeg, Int.reduceLT, Int.reduceLE, Int.reduceEq, Int.reduceAdd, Int.reduceToNat])) | (refine rTake_spec (s := ⟨b, 0, 0⟩) hok hb (app_get ..) ?_; ((try first | refine walk_aw env_ok (none) ?_ | refine walk_aw envR_ok (none) ?_); try simp -implicitDefEqProofs (maxSteps := 1000000) only [go_sem, ↓reduceIte, reduceCtorEq, Nat.reduceLT, Nat.reduceEqDiff, Nat.reduceBEq, Nat.reduceAdd, Nat.reduceMul, Nat.reduceSub, Nat.reduceLeDiff, Int.reduceNeg, Int.reduceLT, Int.reduceLE, Int.reduceEq, Int.reduceAdd, Int.reduceToNat])))
  · rintro ⟨σ, G⟩ ⟨s4, s7, s8, s910, g0, g1, g2, gt⟩
    simp only at s4 s7 s8 s910 g0 g1 g2 gt
    split at s910
    · rename_i x1 x2 i9 i10 s9 s10
      obtain ⟨g9, g10⟩ := s910
      ((try first | refine walk_aw env_ok (none) ?_ | refine walk_aw envR_ok (none) ?_); try simp -implicitDefEqProofs (maxSteps := 1000000) only [go_sem, ↓reduceIte, reduceCtorEq, Nat.reduceLT, Nat.reduceEqDiff, Nat.reduceBEq, Nat.reduceAdd, Nat.reduceMul, Nat.reduceSub, Nat.reduceLeDiff, Int.reduceNeg, Int.reduceLT, Int.reduceLE, Int.reduceEq, Int.reduceAdd, Int.reduceToNat])
      refine AW.chain env_ok [0, 0, 3, 7, 15, 31, 15, 79, 207, 463, 1023, 2047, 4095, 8191, 16383, 32767, 65535, 131071, 262143, 524287, 1048575, 524287, 2621439, 6815743, 15204351, 33554431, 67108863, 134217727, 268435455, 536870911, 1073741823, 2147483647, 536870911, 4831838207, 17179869183, 34359738367, 68719476735, 137438953471, 274877906943, 549755813887, 1099511627775] [0, 1, 2, 3, 4, 5, 6, 7, 8, 9, 10, 11, 12, 13, 14, 15, 16, 17, 18, 19, 20, 21, 22, 23, 24, 25, 26, 27, 28, 29, 30, 31, 32, 33, 34, 35, 36, 37, 38, 39] [(40, [], [])] mixed (by decide) ?_
      ((try first | refine walk_aw env_ok (none) ?_ | refine walk_aw envR_ok (none) ?_); try simp -implicitDefEqProofs (maxSteps := 1000000) only [go_sem, ↓reduceIte, reduceCtorEq, Nat.reduceLT, Nat.reduceEqDiff, Nat.reduceBEq, Nat.reduceAdd, Nat.reduceMul, Nat.reduceSub, Nat.reduceLeDiff, Int.reduceNeg, Int.reduceLT, Int.reduceLE, Int.reduceEq, Int.reduceAdd, Int.reduceToNat, s4, s7, s8, s9, s10, g0, g1, g2, g9, g10])
      refine QC.mk (rSameV_spec ⟨rfl, rfl⟩) ?_
      rw [rawSame_self]
      ((try first | refine walk_aw env_ok (none) ?_ | refine walk_aw envR_ok (none) ?_); try simp -implicitDefEqProofs (maxSteps := 1000000) only [go_sem, ↓reduceIte, reduceCtorEq, Nat.reduceLT, Nat.reduceEqDiff, Nat.reduceBEq, Nat.reduceAdd, Nat.reduceMul, Nat.reduceSub, Nat.reduceLeDiff, Int.reduceNeg, Int.reduceLT, Int.reduceLE, Int.reduceEq, Int.reduceAdd, Int.reduceToNat, s4, s7, s8, s9, s10, g0, g1, g2, g9, g10])
      refine QC.mk (Err_spec g1 ⟨rfl, rfl⟩) ?_
      by_cases e : (rawTake ⟨b, 0, 0⟩ f i w).2.err = 0
      · ((try first | refine walk_aw env_ok (none) ?_ | refine walk_aw envR_ok (none) ?_); try simp -implicitDefEqProofs (maxSteps := 1000000) only [go_sem, ↓reduceIte, reduceCtorEq, Nat.reduceLT, Nat.reduceEqDiff, Nat.reduceBEq, Nat.reduceAdd, Nat.reduceMul, Nat.reduceSub, Nat.reduceLeDiff, Int.reduceNeg, Int.reduceLT, Int.reduceLE, Int.reduceEq, Int.reduceAdd, Int.reduceToNat, s4, s7, s8, s9, s10, g0, g1, g2, g9, g10, e])
        refine QC.mk (At_spec g1 ⟨rfl, rfl⟩) ?_
        ((try first | refine walk_aw env_ok (none) ?_ | refine walk_aw envR_ok (none) ?_); try simp -implicitDefEqProofs (maxSteps := 1000000) only [go_sem, ↓reduceIte, reduceCtorEq, Nat.reduceLT, Nat.reduceEqDiff, Nat.reduceBEq, Nat.reduceAdd, Nat.reduceMul, Nat.reduceSub, Nat.reduceLeDiff, Int.reduceNeg, Int.reduceLT, Int.reduceLE, Int.reduceEq, Int.reduceAdd, Int.reduceToNat, s4, s7, s8, s9, s10, g0, g1, g2, g9, g10, e])
        refine QC.mk (Kind_spec ⟨rfl, rfl⟩) ?_
        ((try first | refine walk_aw env_ok (none) ?_ | refine walk_aw envR_ok (none) ?_); try simp -implicitDefEqProofs (maxSteps := 1000000) only [go_sem, ↓reduceIte, reduceCtorEq, Nat.reduceLT, Nat.reduceEqDiff, Nat.reduceBEq, Nat.reduceAdd, Nat.reduceMul, Nat.reduceSub, Nat.reduceLeDiff, Int.reduceNeg, Int.reduceLT, Int.reduceLE, Int.reduceEq, Int.reduceAdd, Int.reduceToNat, s4, s7, s8, s9, s10, g0, g1, g2, g9, g10, e])
        refine QC.mk (rKind_spec ⟨rfl, rfl⟩) ?_
        ((try first | refine walk_aw env_ok (none) ?_ | refine walk_aw envR_ok (none) ?_); try simp -implicitDefEqProofs (maxSteps := 1000000) only [go_sem, ↓reduceIte, reduceCtorEq, Nat.reduceLT, Nat.reduceEqDiff, Nat.reduceBEq, Nat.reduceAdd, Nat.reduceMul, Nat.reduceSub, Nat.reduceLeDiff, Int.reduceNeg, Int.reduceLT, Int.reduceLE, Int.reduceEq, Int.reduceAdd, Int.reduceToNat, s4, s7, s8, s9, s10, g0, g1, g2, g9, g10, e])
        refine QC.mk (works14_spec ⟨rfl, rfl⟩) ?_
        ((try first | refine walk_aw env_ok (none) ?_ | refine walk_aw envR_ok (none) ?_); try simp -implicitDefEqProofs (maxSteps := 1000000) only [go_sem, ↓reduceIte, reduceCtorEq, Nat.reduceLT, Nat.reduceEqDiff, Nat.reduceBEq, Nat.reduceAdd, Nat.reduceMul, Nat.reduceSub, Nat.reduceLeDiff, Int.reduceNeg, Int.reduceLT, Int.reduceLE, Int.reduceEq, Int.reduceAdd, Int.reduceToNat])
        exact .inr (by rw [gt]; exact h)
      · ((try first | refine walk_aw env_ok (none) ?_ | refine walk_aw envR_ok (none) ?_); try simp -implicitDefEqProofs (maxSteps := 1000000) only [go_sem, ↓reduceIte, reduceCtorEq, Nat.reduceLT, Nat.reduceEqDiff, Nat.reduceBEq, Nat.reduceAdd, Nat.reduceMul, Nat.reduceSub, Nat.reduceLeDiff, Int.reduceNeg, Int.reduceLT, Int.reduceLE, Int.reduceEq, Int.reduceAdd, Int.reduceToNat, s4, s7, s8, s9, s10, g0, g1, g2, g9, g10, e])
        refine QC.mk (Kind_spec ⟨rfl, rfl⟩) ?_
        ((try first | refine walk_aw env_ok (none) ?_ | refine walk_aw envR_ok (none) ?_); try simp -implicitDefEqProofs (maxSteps := 1000000) only [go_sem, ↓reduceIte, reduceCtorEq, Nat.reduceLT, Nat.reduceEqDiff, Nat.reduceBEq, Nat.reduceAdd, Nat.reduceMul, Nat.reduceSub, Nat.reduceLeDiff, Int.reduceNeg, Int.reduceLT, Int.reduceLE, Int.reduceEq, Int.reduceAdd, Int.reduceToNat, s4, s7, s8, s9, s10, g0, g1, g2, g9, g10, e])
        refine QC.mk (rKind_spec ⟨rfl, rfl⟩) ?_
        ((try first | refine walk_aw env_ok (none) ?_ | refine walk_aw envR_ok (none) ?_); try simp -implicitDefEqProofs (maxSteps := 1000000) only [go_sem, ↓reduceIte, reduceCtorEq, Nat.reduceLT, Nat.reduceEqDiff, Nat.reduceBEq, Nat.reduceAdd, Nat.reduceMul, Nat.reduceSub, Nat.reduceLeDiff, Int.reduceNeg, Int.reduceLT, Int.reduceLE, Int.reduceEq, Int.reduceAdd, Int.reduceToNat, s4, s7, s8, s9, s10, g0, g1, g2, g9, g10, e])
        refine QC.mk (works14_spec ⟨rfl, rfl⟩) ?_
        ((try first | refine walk_aw env_ok (none) ?_ | refine walk_aw envR_ok (none) ?_); try simp -implicitDefEqProofs (maxSteps := 1000000) only [go_sem, ↓reduceIte, reduceCtorEq, Nat.reduceLT, Nat.reduceEqDiff, Nat.reduceBEq, Nat.reduceAdd, Nat.reduceMul, Nat.reduceSub, Nat.reduceLeDiff, Int.reduceNeg, Int.reduceLT, Int.reduceLE, Int.reduceEq, Int.reduceAdd, Int.reduceToNat])
        exact .inr (by rw [gt]; exact h)
    · exact s910.elim
end
end Go.Ab
end

section
/- What the laws' arguments are; the tables. -/
namespace Go.Ab
open V Go.Proofs Go.Proofs.YtbdhocfaebchfaaDoor
set_option maxHeartbeats 4000000
set_option maxRecDepth 10000
set_option linter.unusedVariables false

theorem U2 : Tryd.prog.underlying 2 = some (.int .i64) := by kernel_rfl
theorem U3 : Tryd.prog.underlying 3 = some (.int .i64) := by kernel_rfl
theorem U4 : Tryd.prog.underlying 4 = some .bool := by kernel_rfl
theorem U5 : Tryd.prog.underlying 5 = some (.int .u8) := by kernel_rfl
theorem U9 : Tryd.prog.underlying 9 = some .string := by kernel_rfl
theorem U31 : Tryd.prog.underlying 31 = some (.int .u64) := by kernel_rfl
theorem U22 : Tryd.prog.underlying 22 = some (.slice 5) := by kernel_rfl
theorem S24 : fieldTypes Tryd.prog 24 = some [3, 3, 2] := by kernel_rfl
theorem S33 : fieldTypes Tryd.prog 33 = some [3, 31, 2, 22, 9] := by kernel_rfl
theorem G24 : aggT Tryd.prog 24 = true := by kernel_rfl
theorem G33 : aggT Tryd.prog 33 = true := by kernel_rfl
theorem G4 : aggT Tryd.prog 4 = false := by kernel_rfl
theorem G5 : aggT Tryd.prog 5 = false := by kernel_rfl
theorem G22 : aggT Tryd.prog 22 = false := by kernel_rfl

section
variable {n : Nat} {x : A} {c0 : List A}
theorem rc_bytes (h : FitsC Tryd.prog (n + 2) 22 c0) : ∃ l : List UInt8, c0 = [.sl (bA l) none ()] ∧ l.length ≤ maxLen := by
  obtain ⟨xs, rfl, hl, hx⟩ := fits_slice U22 h
  obtain ⟨l, rfl⟩ := map_of (f := byteA) (l := xs) fun x hm => by
    obtain ⟨i, hi, h1, h2⟩ := fits_int U5 (fits_one G5 (hx x hm))
    refine ⟨UInt8.ofNat i.toNat, ?_⟩
    rw [one_inj hi, byteA]
    have h3 : (0 : Int) ≤ i := h1
    have h4 : i ≤ 255 := h2
    rw [show ((UInt8.ofNat i.toNat).toNat : Int) = i by simp; omega]
  exact ⟨l, rfl, by simpa using hl⟩
theorem rd_bytes (h : FitsV Tryd.prog (n + 2) 22 x) : ∃ l : List UInt8, x = .sl (bA l) none () ∧ l.length ≤ maxLen := by
  obtain ⟨l, h1, h2⟩ := rc_bytes (fits_one G22 h)
  exact ⟨l, one_inj h1, h2⟩
theorem rd_bool (h : FitsV Tryd.prog (n + 1) 4 x) : ∃ b, x = .bool b := by
  obtain ⟨b, h1⟩ := fits_bool U4 (fits_one G4 h)
  exact ⟨b, one_inj h1⟩
theorem rd_spec (h : FitsV Tryd.prog (n + 2) 24 x) : ∃ a f i : Int, x = .agg [.int .i64 a, .int .i64 f, .int .i64 i] := by
  obtain ⟨cs, rfl, hc⟩ := fits_agg G24 h
  obtain ⟨ps, rfl, hl, hp⟩ := fits_struct S24 hc
  match ps, hl with
  | [p0, p1, p2], _ =>
    obtain ⟨a, rfl, _⟩ := fits_int U3 (hp 0 3 p0 rfl rfl)
    obtain ⟨f, rfl, _⟩ := fits_int U3 (hp 1 3 p1 rfl rfl)
    obtain ⟨i, rfl, _⟩ := fits_int U2 (hp 2 2 p2 rfl rfl)
    exact ⟨a, f, i, rfl⟩
theorem rd_raw (h : FitsV Tryd.prog (n + 4) 33 x) : ∃ r : RV, x = .agg r.cells ∧ r.u < 18446744073709551616 ∧ (-9223372036854775808 ≤ r.s ∧ r.s < 9223372036854775808) ∧ r.b.length ≤ maxLen ∧ r.t.size ≤ maxLen := by
  obtain ⟨cs, rfl, hc⟩ := fits_agg G33 h
  obtain ⟨ps, rfl, hl, hp⟩ := fits_struct S33 hc
  match ps, hl with
  | [p0, p1, p2, p3, p4], _ =>
    obtain ⟨f, rfl, _⟩ := fits_int U3 (hp 0 3 p0 rfl rfl)
    obtain ⟨u, rfl, u1, u2⟩ := fits_int U31 (hp 1 31 p1 rfl rfl)
    obtain ⟨s, rfl, s1, s2⟩ := fits_int U2 (hp 2 2 p2 rfl rfl)
    obtain ⟨l, rfl, hl⟩ := rc_bytes (hp 3 22 p3 rfl rfl)
    obtain ⟨t, rfl, ht⟩ := fits_str U9 (hp 4 9 p4 rfl rfl)
    have u3 : (0 : Int) ≤ u := u1
    have u4 : u ≤ 18446744073709551615 := u2
    have s3 : (-9223372036854775808 : Int) ≤ s := s1
    have s4 : s ≤ 9223372036854775807 := s2
    refine ⟨⟨f, u.toNat, s, l, t⟩, ?_, by simp only; omega, by simp only; omega, hl, ht⟩
    show _ = V.agg [_, V.int .u64 ((u.toNat : Nat) : Int), _, _, _]
    rw [show ((u.toNat : Nat) : Int) = u by omega]; rfl
end

/-! the tables -/
theorem gSizes : Tryd.prog.globalNamed "sindri/length.sizes" = some 1 := by kernel_rfl
theorem gForms : Tryd.prog.globalNamed "sindri/raw.forms" = some 0 := by kernel_rfl
theorem tSizes : (Tryd.prog.globals[1]?).map (·.type) = some 99 := by kernel_rfl
theorem tForms : (Tryd.prog.globals[0]?).map (·.type) = some 84 := by kernel_rfl
theorem pSizes : plainT Tryd.prog 3 99 = true := by kernel_rfl
theorem pForms : plainT Tryd.prog 3 84 = true := by kernel_rfl
theorem tabs_laid {W : World} (h : laidMetH Tryd.prog Rows.rawTakesRow.laid W) : TabsAt W := by
  rw [Go.MakeChecks.laidMetH_plain _ _ _ (by kernel_rfl)] at h
  obtain ⟨ps, ⟨g1, t1, cs1, f1, p1, q1, hg1, ht1, hv1, hd1, ⟨g0, t0, cs0, f0, p0, q0, hg0, ht0, hv0, hd0, _, _⟩, _⟩, _, _⟩ := h
  obtain rfl := Option.some.inj (gSizes.symm.trans hg1)
  obtain rfl := Option.some.inj (gForms.symm.trans hg0)
  obtain rfl := Option.some.inj (tSizes.symm.trans ht1)
  obtain rfl := Option.some.inj (tForms.symm.trans ht0)
  have e1 : cs1.toList = tabL1.map leafV := trod_flat 3 99 _ _ _ pSizes hd1
  have e0 : cs0.toList = tabL0.map leafV := trod_flat 3 84 _ _ _ pForms hd0
  intro b cs hb
  have hb' : (if b = 1 then some tabL1 else if b = 0 then some tabL0 else none) = some cs := hb
  split at hb'
  · rename_i c; subst c
    simp only [Option.some.injEq] at hb'; subst hb'
    exact tab_at gSizes hv1 e1
  · split at hb'
    · rename_i c; subst c
      simp only [Option.some.injEq] at hb'; subst hb'
      exact tab_at gForms hv0 e0
    · cases hb'

def withCells (cs : List A) : Obj → Obj
  | .cells _ ty fz => .cells (cs.map leafV).toArray ty fz
  | o => o
/-- A world that holds the tables. -/
noncomputable def laidWorld (os : Os) : World :=
  let w0 : World := World.holding Tryd.prog os ⟨#[], #[], []⟩
  { w0 with heap := (w0.heap.modify 0 (withCells tabL0)).modify 1 (withCells tabL1) }
end Go.Ab
end
