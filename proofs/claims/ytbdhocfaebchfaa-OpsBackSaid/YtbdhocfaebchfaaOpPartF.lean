/- Contracts of the functions that the law reaches. -/
import Derived.Test.YtbdhocfaebchfaaOpPartE
import Derived.Test.YtbdhocfaebchfaaOpPartC
import Derived.Test.YtbdhocfaebchfaaOpPartD
import Derived.Test.YtbdhocfaebchfaaOpLAbRead
import Derived.Test.YtbdhocfaebchfaaOpLAbLaid
set_option linter.all false
set_option linter.unusedSimpArgs false
set_option linter.unusedVariables false
set_option linter.unnecessarySimpa false
section
/- The law OpsBack answers true. -/
namespace Go.Ab
open V Go.Proofs
set_option maxHeartbeats 16000000
set_option maxRecDepth 10000
set_option linter.unusedSimpArgs false
set_option linter.unusedVariables false

section
variable {H : Heap} {Q : A → Heap → Prop}
theorem layB_short {l : List OV} (hx : ∀ x ∈ l, x.In) (h : layOk l = true) : (layB l).length < 140737488355328 := by
  rw [layB_len]
  have := P0_small hx h l.length (Nat.le_refl _); omega
theorem OpsBack_spec {l : List OV} {b : List UInt8} (hl : ∀ x ∈ l, x.a < 18446744073709551616 ∧ x.b < 18446744073709551616) (h : Q (.bool true) H) : AC Try.prog 6 [.sl (oA l) none (), .sl (bA b) none ()] H Q := by
  refine AC.enter (E := env Try.prog 80 (fun _ => .copy) (fun _ => false)) env_ok Try.func6 rfl rfl rfl (by simp only [List.length_cons, List.length_nil]; exact of_decide_eq_true rfl) ?_
  ((try first | refine walk_aw env_ok (none) ?_ | refine walk_aw envR_ok (none) ?_); try simp -implicitDefEqProofs (maxSteps := 1000000) only [go_sem, ↓reduceIte, reduceCtorEq, Nat.reduceLT, Nat.reduceEqDiff, Nat.reduceBEq, Nat.reduceAdd, Nat.reduceMul, Nat.reduceSub, Nat.reduceLeDiff, Int.reduceNeg, Int.reduceLT, Int.reduceLE, Int.reduceEq, Int.reduceAdd, Int.reduceToNat])
  refine works18_spec ?_
  ((try first | refine walk_aw env_ok (none) ?_ | refine walk_aw envR_ok (none) ?_); try simp -implicitDefEqProofs (maxSteps := 1000000) only [go_sem, ↓reduceIte, reduceCtorEq, Nat.reduceLT, Nat.reduceEqDiff, Nat.reduceBEq, Nat.reduceAdd, Nat.reduceMul, Nat.reduceSub, Nat.reduceLeDiff, Int.reduceNeg, Int.reduceLT, Int.reduceLE, Int.reduceEq, Int.reduceAdd, Int.reduceToNat])
  refine Bulk_spec (n := 2000) (by decide) fun z hz => ?_
  by_cases c1 : z > 2000
  · ((try first | refine walk_aw env_ok (none) ?_ | refine walk_aw envR_ok (none) ?_); try simp -implicitDefEqProofs (maxSteps := 1000000) only [go_sem, ↓reduceIte, reduceCtorEq, Nat.reduceLT, Nat.reduceEqDiff, Nat.reduceBEq, Nat.reduceAdd, Nat.reduceMul, Nat.reduceSub, Nat.reduceLeDiff, Int.reduceNeg, Int.reduceLT, Int.reduceLE, Int.reduceEq, Int.reduceAdd, Int.reduceToNat, c1])
    exact .inl h
  have hb1 := hz.1 (by omega)
  have hin := big_in hl (Nat.le_refl _) hb1.1 hb1.2
  have hll : l.length < 9223372036854775807 := by omega
  by_cases c2 : (b.length : Int) > 2000
  · ((try first | refine walk_aw env_ok (none) ?_ | refine walk_aw envR_ok (none) ?_); try simp -implicitDefEqProofs (maxSteps := 1000000) only [go_sem, ↓reduceIte, reduceCtorEq, Nat.reduceLT, Nat.reduceEqDiff, Nat.reduceBEq, Nat.reduceAdd, Nat.reduceMul, Nat.reduceSub, Nat.reduceLeDiff, Int.reduceNeg, Int.reduceLT, Int.reduceLE, Int.reduceEq, Int.reduceAdd, Int.reduceToNat, c1, c2])
    exact .inl h
  have hbb : b.length ≤ 2000 := by omega
  -- the second half
  have rest : ∀ (m : List OV) (e : Int), oTake b = (e, m) → e = 0 → (∀ x ∈ m, x.In) ∧ layOk m = true ∧ m.length < 9223372036854775807 ∧ oTake (layB m) = (0, m) ∧ (layB m).length < 140737488355328 := by
    rintro m e he rfl
    obtain ⟨h1, h2⟩ := take_lay hbb he
    exact ⟨h1, h2, by have := (layOk_parts h2).1; omega, take_put h1 h2, layB_short h1 h2⟩
  ((try first | refine walk_aw env_ok (none) ?_ | refine walk_aw envR_ok (none) ?_); try simp -implicitDefEqProofs (maxSteps := 1000000) only [go_sem, ↓reduceIte, reduceCtorEq, Nat.reduceLT, Nat.reduceEqDiff, Nat.reduceBEq, Nat.reduceAdd, Nat.reduceMul, Nat.reduceSub, Nat.reduceLeDiff, Int.reduceNeg, Int.reduceLT, Int.reduceLE, Int.reduceEq, Int.reduceAdd, Int.reduceToNat, c1, c2])
  cases hR : layOk l with
  | false =>
    refine oPut_spec hin hll (fun _ => ?_) (fun e => absurd e (by rw [hR]; decide))
    ((try first | refine walk_aw env_ok (none) ?_ | refine walk_aw envR_ok (none) ?_); try simp -implicitDefEqProofs (maxSteps := 1000000) only [go_sem, ↓reduceIte, reduceCtorEq, Nat.reduceLT, Nat.reduceEqDiff, Nat.reduceBEq, Nat.reduceAdd, Nat.reduceMul, Nat.reduceSub, Nat.reduceLeDiff, Int.reduceNeg, Int.reduceLT, Int.reduceLE, Int.reduceEq, Int.reduceAdd, Int.reduceToNat])
    refine oTake_spec (by omega) ?_
    by_cases e0 : (oTake b).1 = 0
    · obtain ⟨k1, k2, k3, k4, k5⟩ := rest (oTake b).2 (oTake b).1 rfl e0
      rw [e0]
      ((try first | refine walk_aw env_ok (none) ?_ | refine walk_aw envR_ok (none) ?_); try simp -implicitDefEqProofs (maxSteps := 1000000) only [go_sem, ↓reduceIte, reduceCtorEq, Nat.reduceLT, Nat.reduceEqDiff, Nat.reduceBEq, Nat.reduceAdd, Nat.reduceMul, Nat.reduceSub, Nat.reduceLeDiff, Int.reduceNeg, Int.reduceLT, Int.reduceLE, Int.reduceEq, Int.reduceAdd, Int.reduceToNat])
      refine oPut_spec k1 k3 (fun e => absurd e (by rw [k2]; decide)) (fun _ => ?_)
      ((try first | refine walk_aw env_ok (none) ?_ | refine walk_aw envR_ok (none) ?_); try simp -implicitDefEqProofs (maxSteps := 1000000) only [go_sem, ↓reduceIte, reduceCtorEq, Nat.reduceLT, Nat.reduceEqDiff, Nat.reduceBEq, Nat.reduceAdd, Nat.reduceMul, Nat.reduceSub, Nat.reduceLeDiff, Int.reduceNeg, Int.reduceLT, Int.reduceLE, Int.reduceEq, Int.reduceAdd, Int.reduceToNat])
      refine oTake_spec k5 ?_
      rw [k4]
      ((try first | refine walk_aw env_ok (none) ?_ | refine walk_aw envR_ok (none) ?_); try simp -implicitDefEqProofs (maxSteps := 1000000) only [go_sem, ↓reduceIte, reduceCtorEq, Nat.reduceLT, Nat.reduceEqDiff, Nat.reduceBEq, Nat.reduceAdd, Nat.reduceMul, Nat.reduceSub, Nat.reduceLeDiff, Int.reduceNeg, Int.reduceLT, Int.reduceLE, Int.reduceEq, Int.reduceAdd, Int.reduceToNat])
      refine oSame_spec k3 ?_
      rw [decide_eq_true rfl]
      ((try first | refine walk_aw env_ok (none) ?_ | refine walk_aw envR_ok (none) ?_); try simp -implicitDefEqProofs (maxSteps := 1000000) only [go_sem, ↓reduceIte, reduceCtorEq, Nat.reduceLT, Nat.reduceEqDiff, Nat.reduceBEq, Nat.reduceAdd, Nat.reduceMul, Nat.reduceSub, Nat.reduceLeDiff, Int.reduceNeg, Int.reduceLT, Int.reduceLE, Int.reduceEq, Int.reduceAdd, Int.reduceToNat])
      refine oRight_spec k1 k3 ?_
      rw [k2]
      ((try first | refine walk_aw env_ok (none) ?_ | refine walk_aw envR_ok (none) ?_); try simp -implicitDefEqProofs (maxSteps := 1000000) only [go_sem, ↓reduceIte, reduceCtorEq, Nat.reduceLT, Nat.reduceEqDiff, Nat.reduceBEq, Nat.reduceAdd, Nat.reduceMul, Nat.reduceSub, Nat.reduceLeDiff, Int.reduceNeg, Int.reduceLT, Int.reduceLE, Int.reduceEq, Int.reduceAdd, Int.reduceToNat])
      exact .inl h
    · rw [take_err e0]
      ((try first | refine walk_aw env_ok (none) ?_ | refine walk_aw envR_ok (none) ?_); try simp -implicitDefEqProofs (maxSteps := 1000000) only [go_sem, ↓reduceIte, reduceCtorEq, Nat.reduceLT, Nat.reduceEqDiff, Nat.reduceBEq, Nat.reduceAdd, Nat.reduceMul, Nat.reduceSub, Nat.reduceLeDiff, Int.reduceNeg, Int.reduceLT, Int.reduceLE, Int.reduceEq, Int.reduceAdd, Int.reduceToNat, e0])
      exact .inl h
  | true =>
    have t0 := take_put hin hR
    refine oPut_spec hin hll (fun e => absurd e (by rw [hR]; decide)) (fun _ => ?_)
    ((try first | refine walk_aw env_ok (none) ?_ | refine walk_aw envR_ok (none) ?_); try simp -implicitDefEqProofs (maxSteps := 1000000) only [go_sem, ↓reduceIte, reduceCtorEq, Nat.reduceLT, Nat.reduceEqDiff, Nat.reduceBEq, Nat.reduceAdd, Nat.reduceMul, Nat.reduceSub, Nat.reduceLeDiff, Int.reduceNeg, Int.reduceLT, Int.reduceLE, Int.reduceEq, Int.reduceAdd, Int.reduceToNat])
    refine oTake_spec (layB_short hin hR) ?_
    rw [t0]
    ((try first | refine walk_aw env_ok (none) ?_ | refine walk_aw envR_ok (none) ?_); try simp -implicitDefEqProofs (maxSteps := 1000000) only [go_sem, ↓reduceIte, reduceCtorEq, Nat.reduceLT, Nat.reduceEqDiff, Nat.reduceBEq, Nat.reduceAdd, Nat.reduceMul, Nat.reduceSub, Nat.reduceLeDiff, Int.reduceNeg, Int.reduceLT, Int.reduceLE, Int.reduceEq, Int.reduceAdd, Int.reduceToNat])
    refine oSame_spec hll ?_
    rw [decide_eq_true rfl]
    ((try first | refine walk_aw env_ok (none) ?_ | refine walk_aw envR_ok (none) ?_); try simp -implicitDefEqProofs (maxSteps := 1000000) only [go_sem, ↓reduceIte, reduceCtorEq, Nat.reduceLT, Nat.reduceEqDiff, Nat.reduceBEq, Nat.reduceAdd, Nat.reduceMul, Nat.reduceSub, Nat.reduceLeDiff, Int.reduceNeg, Int.reduceLT, Int.reduceLE, Int.reduceEq, Int.reduceAdd, Int.reduceToNat])
    refine oTake_spec (by omega) ?_
    by_cases e0 : (oTake b).1 = 0
    · obtain ⟨k1, k2, k3, k4, k5⟩ := rest (oTake b).2 (oTake b).1 rfl e0
      rw [e0]
      ((try first | refine walk_aw env_ok (none) ?_ | refine walk_aw envR_ok (none) ?_); try simp -implicitDefEqProofs (maxSteps := 1000000) only [go_sem, ↓reduceIte, reduceCtorEq, Nat.reduceLT, Nat.reduceEqDiff, Nat.reduceBEq, Nat.reduceAdd, Nat.reduceMul, Nat.reduceSub, Nat.reduceLeDiff, Int.reduceNeg, Int.reduceLT, Int.reduceLE, Int.reduceEq, Int.reduceAdd, Int.reduceToNat])
      refine oPut_spec k1 k3 (fun e => absurd e (by rw [k2]; decide)) (fun _ => ?_)
      ((try first | refine walk_aw env_ok (none) ?_ | refine walk_aw envR_ok (none) ?_); try simp -implicitDefEqProofs (maxSteps := 1000000) only [go_sem, ↓reduceIte, reduceCtorEq, Nat.reduceLT, Nat.reduceEqDiff, Nat.reduceBEq, Nat.reduceAdd, Nat.reduceMul, Nat.reduceSub, Nat.reduceLeDiff, Int.reduceNeg, Int.reduceLT, Int.reduceLE, Int.reduceEq, Int.reduceAdd, Int.reduceToNat])
      refine oTake_spec k5 ?_
      rw [k4]
      ((try first | refine walk_aw env_ok (none) ?_ | refine walk_aw envR_ok (none) ?_); try simp -implicitDefEqProofs (maxSteps := 1000000) only [go_sem, ↓reduceIte, reduceCtorEq, Nat.reduceLT, Nat.reduceEqDiff, Nat.reduceBEq, Nat.reduceAdd, Nat.reduceMul, Nat.reduceSub, Nat.reduceLeDiff, Int.reduceNeg, Int.reduceLT, Int.reduceLE, Int.reduceEq, Int.reduceAdd, Int.reduceToNat])
      refine oSame_spec k3 ?_
      rw [decide_eq_true rfl]
      ((try first | refine walk_aw env_ok (none) ?_ | refine walk_aw envR_ok (none) ?_); try simp -implicitDefEqProofs (maxSteps := 1000000) only [go_sem, ↓reduceIte, reduceCtorEq, Nat.reduceLT, Nat.reduceEqDiff, Nat.reduceBEq, Nat.reduceAdd, Nat.reduceMul, Nat.reduceSub, Nat.reduceLeDiff, Int.reduceNeg, Int.reduceLT, Int.reduceLE, Int.reduceEq, Int.reduceAdd, Int.reduceToNat])
      refine oRight_spec k1 k3 ?_
      rw [k2]
      ((try first | refine walk_aw env_ok (none) ?_ | refine walk_aw envR_ok (none) ?_); try simp -implicitDefEqProofs (maxSteps := 1000000) only [go_sem, ↓reduceIte, reduceCtorEq, Nat.reduceLT, Nat.reduceEqDiff, Nat.reduceBEq, Nat.reduceAdd, Nat.reduceMul, Nat.reduceSub, Nat.reduceLeDiff, Int.reduceNeg, Int.reduceLT, Int.reduceLE, Int.reduceEq, Int.reduceAdd, Int.reduceToNat])
      exact .inl h
    · rw [take_err e0]
      ((try first | refine walk_aw env_ok (none) ?_ | refine walk_aw envR_ok (none) ?_); try simp -implicitDefEqProofs (maxSteps := 1000000) only [go_sem, ↓reduceIte, reduceCtorEq, Nat.reduceLT, Nat.reduceEqDiff, Nat.reduceBEq, Nat.reduceAdd, Nat.reduceMul, Nat.reduceSub, Nat.reduceLeDiff, Int.reduceNeg, Int.reduceLT, Int.reduceLE, Int.reduceEq, Int.reduceAdd, Int.reduceToNat, e0])
      exact .inl h
end
end Go.Ab
end

section
/- What the laws' arguments are. -/
namespace Go.Ab
open V Go.Proofs
set_option maxHeartbeats 4000000
set_option maxRecDepth 10000
set_option linter.unusedVariables false

theorem U3 : Try.prog.underlying 3 = some (.int .i64) := by kernel_rfl
theorem U5 : Try.prog.underlying 5 = some (.int .u8) := by kernel_rfl
theorem U31 : Try.prog.underlying 31 = some (.int .u64) := by kernel_rfl
theorem U24 : Try.prog.underlying 24 = some (.slice 5) := by kernel_rfl
theorem U29 : Try.prog.underlying 29 = some (.slice 33) := by kernel_rfl
theorem S33 : fieldTypes Try.prog 33 = some [3, 31, 31, 24] := by kernel_rfl
theorem G33 : aggT Try.prog 33 = true := by kernel_rfl
theorem G3 : aggT Try.prog 3 = false := by kernel_rfl
theorem G5 : aggT Try.prog 5 = false := by kernel_rfl
theorem G24 : aggT Try.prog 24 = false := by kernel_rfl
theorem G29 : aggT Try.prog 29 = false := by kernel_rfl

section
variable {n : Nat} {x : A} {c0 : List A}
theorem rc_bytes (h : FitsC Try.prog (n + 2) 24 c0) : ∃ l : List UInt8, c0 = [.sl (bA l) none ()] ∧ l.length ≤ maxLen := by
  obtain ⟨xs, rfl, hl, hx⟩ := fits_slice U24 h
  obtain ⟨l, rfl⟩ := map_of (f := byteA) (l := xs) fun x hm => by
    obtain ⟨i, hi, h1, h2⟩ := fits_int U5 (fits_one G5 (hx x hm))
    refine ⟨UInt8.ofNat i.toNat, ?_⟩
    rw [one_inj hi, byteA]
    have h3 : (0 : Int) ≤ i := h1
    have h4 : i ≤ 255 := h2
    rw [show ((UInt8.ofNat i.toNat).toNat : Int) = i by simp; omega]
  exact ⟨l, rfl, by simpa using hl⟩
theorem rd_bytes (h : FitsV Try.prog (n + 2) 24 x) : ∃ l : List UInt8, x = .sl (bA l) none () ∧ l.length ≤ maxLen := by
  obtain ⟨l, h1, h2⟩ := rc_bytes (fits_one G24 h)
  exact ⟨l, one_inj h1, h2⟩
theorem rd_int (h : FitsV Try.prog (n + 1) 3 x) : ∃ i : Int, x = .int .i64 i := by
  obtain ⟨i, h1, _⟩ := fits_int U3 (fits_one G3 h)
  exact ⟨i, one_inj h1⟩
theorem rd_op (h : FitsV Try.prog (n + 4) 33 x) : ∃ r : OV, x = r.v ∧ r.a < 18446744073709551616 ∧ r.b < 18446744073709551616 := by
  obtain ⟨cs, rfl, hc⟩ := fits_agg G33 h
  obtain ⟨ps, rfl, hl, hp⟩ := fits_struct S33 hc
  match ps, hl with
  | [p0, p1, p2, p3], _ =>
    obtain ⟨c, rfl, _⟩ := fits_int U3 (hp 0 3 p0 rfl rfl)
    obtain ⟨u, rfl, u1, u2⟩ := fits_int U31 (hp 1 31 p1 rfl rfl)
    obtain ⟨s, rfl, s1, s2⟩ := fits_int U31 (hp 2 31 p2 rfl rfl)
    obtain ⟨l, rfl, hl⟩ := rc_bytes (hp 3 24 p3 rfl rfl)
    have u3 : (0 : Int) ≤ u := u1
    have u4 : u ≤ 18446744073709551615 := u2
    have s3 : (0 : Int) ≤ s := s1
    have s4 : s ≤ 18446744073709551615 := s2
    refine ⟨⟨c, u.toNat, s.toNat, l⟩, ?_, by simp only; omega, by simp only; omega⟩
    show _ = V.agg [_, V.int .u64 ((u.toNat : Nat) : Int), V.int .u64 ((s.toNat : Nat) : Int), _]
    rw [show ((u.toNat : Nat) : Int) = u by omega, show ((s.toNat : Nat) : Int) = s by omega]; rfl
theorem rd_ops (h : FitsV Try.prog (n + 5) 29 x) : ∃ l : List OV, x = .sl (oA l) none () ∧ ∀ y ∈ l, y.a < 18446744073709551616 ∧ y.b < 18446744073709551616 := by
  obtain ⟨xs, hx0, _, hx⟩ := fits_slice U29 (fits_one G29 h)
  have hall : ∀ y ∈ xs, ∃ r : {r : OV // r.a < 18446744073709551616 ∧ r.b < 18446744073709551616}, y = r.1.v := fun y hm => by
    obtain ⟨r, h1, h2, h3⟩ := rd_op (n := n) (hx y hm)
    exact ⟨⟨r, h2, h3⟩, h1⟩
  obtain ⟨l, rfl⟩ := map_of (f := fun r : {r : OV // r.a < 18446744073709551616 ∧ r.b < 18446744073709551616} => r.1.v) (l := xs) hall
  refine ⟨l.map (·.1), ?_, fun y hm => ?_⟩
  · rw [one_inj hx0, oA, List.map_map]; rfl
  · obtain ⟨r, _, rfl⟩ := List.mem_map.1 hm
    exact r.2
end
theorem tabs_none {W : World} : TabsAt W := fun b cs hb => by cases hb
end Go.Ab
end
