/- Contracts of the functions that the law reaches. -/
import Derived.Test.YtbdhocfaebchfaaDoorRtPartC
import Derived.Test.YtbdhocfaebchfaaDoorRtLAbRead
import Derived.Test.YtbdhocfaebchfaaDoorRtLAbLaid
import Derived.Test.YtbdhocfaebchfaaDoorRows
import Derived.MakeChecks
set_option linter.all false
set_option linter.unusedSimpArgs false
set_option linter.unusedVariables false
set_option linter.unnecessarySimpa false
section
/- Package sindriref14: which values may be, and how they are put. -/
namespace Go.Ab
open V Go.Proofs
set_option maxHeartbeats 4000000
set_option maxRecDepth 10000
set_option linter.unusedSimpArgs false
set_option linter.unusedVariables false

def fitsD (n : Nat) (f : Int) (w : Bool) : Bool := decide (szr f w = 0 ∨ szr f w = 8 ∨ n / 256 ^ (szr f w).toNat = 0)
theorem szr_range (f : Int) (w : Bool) : 0 ≤ szr f w ∧ szr f w ≤ 8 := by
  have h : ∀ k : Nat, k < 45 → sizeR.getD k 0 = -2 ∨ (0 ≤ sizeR.getD k 0 ∧ sizeR.getD k 0 ≤ 8) := by decide
  by_cases c : 0 ≤ f ∧ f < 45
  · obtain ⟨k, rfl⟩ : ∃ k : Nat, f = (k : Int) := ⟨f.toNat, by omega⟩
    rw [szr_nat (by omega)]
    rcases h k (by omega) with e | e
    · rw [if_pos e]; cases w <;> simp
    · rw [if_neg (by omega)]; exact e
  · rw [szr, if_neg c]; omega
theorem fits_rel {n : Nat} {f : Int} {w : Bool} (h0 : kd f ≠ 0) (h1 : f ≠ 25) (h2 : f ≠ 33) (h3 : f ≠ 13) (h4 : f ≠ 8) (h5 : f ≠ 30) : fitsD n f w = fitsR n (szf f) w := by
  obtain ⟨k, hk, rfl⟩ := kd_in h0
  rw [kd_nat hk] at h0
  have hr := szr_range (k : Int) w
  rw [fitsD, fitsR, zz]
  rw [szr_nat hk] at hr ⊢
  rw [szf_nat hk]
  rcases size_rel k hk with c | ⟨c1, c2⟩ | ⟨c1, c2, c3⟩
  · exfalso
    rcases c with c | c | c | c
    · omega
    · omega
    · exact h0 c
    · rcases other_rel k hk c with c | c | c <;> omega
  · rw [c2, c1]; simp
  · rw [c2] at hr ⊢
    by_cases c4 : sizeL.getD k 0 = -2
    · rw [if_pos c4] at hr ⊢
      cases w <;> simp
    · rw [if_neg c4] at hr ⊢
      apply decide_eq_decide.2
      constructor
      · rintro (e | e | e)
        · exact absurd e c3
        · right; left; omega
        · right; right; exact e
      · rintro (e | e | e)
        · exact absurd e c1
        · right; left; omega
        · right; right; exact e

theorem bA_one (l : List UInt8) (x : UInt8) : bA l ++ ([V.int .u8 (x.toNat : Int)] : List A) = bA (l ++ [x]) := by simp [bA, byteA]

section
variable {H : Heap} {Q : A → Heap → Prop}
theorem rtPut_spec {s : ByteArray} (ht : textOk s = true) (h : Q (.sl (bA (txt s ++ [0])) (some 0) ()) H) : AC Tryd.prog 36 [.str s] H Q := by
  rw [textOk, Bool.and_eq_true, decide_eq_true_eq, decide_eq_true_eq] at ht
  have htl := txt_len s
  have hsz := ht.2
  refine AC.enter (E := env Tryd.prog 26 (fun t => if t == 17 || t == 23 then .take else .copy) (fun _ => false)) env_ok Tryd.func36 rfl rfl rfl (by simp only [List.length_cons, List.length_nil]; exact of_decide_eq_true rfl) ?_
  ((try first | refine walk_aw env_ok (none) ?_ | refine walk_aw envR_ok (none) ?_); try simp -implicitDefEqProofs (maxSteps := 1000000) only [go_sem, ↓reduceIte, reduceCtorEq, Nat.reduceLT, Nat.reduceEqDiff, Nat.reduceBEq, Nat.reduceAdd, Nat.reduceMul, Nat.reduceSub, Nat.reduceLeDiff, Int.reduceNeg, Int.reduceLT, Int.reduceLE, Int.reduceEq, Int.reduceAdd, Int.reduceToNat])
  refine AW.loop (fun st => ∃ i : Nat, i ≤ s.size ∧ st.σ 0 = .str s ∧ st.σ 4 = .int .i64 i ∧ st.σ 3 = .sl (bA ((txt s).take i)) (some 0) () ∧ st.H = H)
    (fun st => match st.σ 4 with | .int _ i => s.size - i.toNat | _ => 0) ⟨0, by omega, rfl, rfl, rfl, rfl⟩ ?_
  rintro ⟨σ, H2⟩ ⟨i, hi, s0, s4, s3, rfl⟩
  simp only at s0 s4 s3
  have hcap : ((txt s).take i).length ≤ 140737488355327 := by rw [List.length_take]; omega
  by_cases c : i = s.size
  · have c1 : ¬ (i : Int) < (s.size : Int) := by omega
    ((try first | refine walk_aw env_ok (none) ?_ | refine walk_aw envR_ok (none) ?_); try simp -implicitDefEqProofs (maxSteps := 1000000) only [go_sem, ↓reduceIte, reduceCtorEq, Nat.reduceLT, Nat.reduceEqDiff, Nat.reduceBEq, Nat.reduceAdd, Nat.reduceMul, Nat.reduceSub, Nat.reduceLeDiff, Int.reduceNeg, Int.reduceLT, Int.reduceLE, Int.reduceEq, Int.reduceAdd, Int.reduceToNat, s0, s4, s3, c1, uni_i1, hcap, Nat.zero_le])
    rw [List.take_of_length_le (by omega)]
    exact .inl h
  · have c1 : (i : Int) < (s.size : Int) := by omega
    have c2 : (0 : Int) ≤ (i : Int) := by omega
    have hgi : s.data.toList.getD i 0 = (txt s)[i]'(by omega) := by
      rw [List.getD_eq_getElem?_getD]; show (txt s)[i]?.getD 0 = _; rw [List.getElem?_eq_getElem (by omega)]; rfl
    have hne : ¬ ((s.data.toList.getD i 0).toNat : Int) = 0 := by
      intro hc
      refine ht.1 (s.data.toList.getD i 0) ?_ (UInt8.toNat_inj.1 (by simpa using hc))
      rw [hgi]; exact List.getElem_mem _
    have e3 : IntKind.i64.wrap ((i : Int) + 1) = ((i + 1 : Nat) : Int) := IntWalk.i64_in _ (by omega)
    have hsn : bA ((txt s).take i) ++ ([V.int .u8 ((s.data.toList.getD i 0).toNat : Int)] : List A) = bA ((txt s).take (i + 1)) := by
      rw [bA_one, hgi, List.take_succ_eq_append_getElem (by omega)]
    ((try first | refine walk_aw env_ok (none) ?_ | refine walk_aw envR_ok (none) ?_); try simp -implicitDefEqProofs (maxSteps := 1000000) only [go_sem, ↓reduceIte, reduceCtorEq, Nat.reduceLT, Nat.reduceEqDiff, Nat.reduceBEq, Nat.reduceAdd, Nat.reduceMul, Nat.reduceSub, Nat.reduceLeDiff, Int.reduceNeg, Int.reduceLT, Int.reduceLE, Int.reduceEq, Int.reduceAdd, Int.reduceToNat, s0, s4, s3, c1, c2, hne, e3, hsn, uni_i1, hcap, Nat.zero_le])
    exact ⟨⟨i + 1, by omega, rfl, rfl⟩, by omega⟩

theorem fits_spec {n : Nat} {f : Int} {w : Bool} (hn : n < 18446744073709551616) (h : Q (.bool (fitsD n f w)) H) : AC Tryd.prog 40 [.int .u64 n, .int .i64 f, .bool w] H Q := by
  have hr := szr_range f w
  rw [fitsD] at h
  refine AC.enter (E := env Tryd.prog 33 (fun _ => .copy) (fun _ => false)) env_ok Tryd.func40 rfl rfl rfl (by simp only [List.length_cons, List.length_nil]; exact of_decide_eq_true rfl) ?_
  ((try first | refine walk_aw env_ok (none) ?_ | refine walk_aw envR_ok (none) ?_); try simp -implicitDefEqProofs (maxSteps := 1000000) only [go_sem, ↓reduceIte, reduceCtorEq, Nat.reduceLT, Nat.reduceEqDiff, Nat.reduceBEq, Nat.reduceAdd, Nat.reduceMul, Nat.reduceSub, Nat.reduceLeDiff, Int.reduceNeg, Int.reduceLT, Int.reduceLE, Int.reduceEq, Int.reduceAdd, Int.reduceToNat])
  refine rSize_spec ?_
  generalize szr f w = z at hr h
  obtain ⟨k, rfl⟩ : ∃ k : Nat, z = (k : Int) := ⟨z.toNat, by omega⟩
  rw [Int.toNat_natCast] at h
  ((try first | refine walk_aw env_ok (none) ?_ | refine walk_aw envR_ok (none) ?_); try simp -implicitDefEqProofs (maxSteps := 1000000) only [go_sem, ↓reduceIte, reduceCtorEq, Nat.reduceLT, Nat.reduceEqDiff, Nat.reduceBEq, Nat.reduceAdd, Nat.reduceMul, Nat.reduceSub, Nat.reduceLeDiff, Int.reduceNeg, Int.reduceLT, Int.reduceLE, Int.reduceEq, Int.reduceAdd, Int.reduceToNat])
  refine AW.loop (fun st => ∃ i : Nat, i ≤ k ∧ (k = 8 → i = 0) ∧ st.σ 7 = .int .i64 k ∧ st.σ 8 = .int .i64 i ∧ st.σ 0 = .int .u64 ((n / 256 ^ i : Nat) : Int) ∧ st.H = H)
    (fun st => match st.σ 8 with | .int _ i => k - i.toNat | _ => 0) ⟨0, by omega, by omega, rfl, rfl, by simp; rfl, rfl⟩ ?_
  rintro ⟨σ, H2⟩ ⟨i, hi, hi8, s7, s8, s0, rfl⟩
  simp only at s7 s8 s0
  by_cases c : i < k ∧ k < 8
  · have c1 : (i : Int) < (k : Int) := by omega
    have c2 : (k : Int) < 8 := by omega
    have e2 : IntKind.u64.wrap (((n / 256 ^ i : Nat) : Int).tdiv 256) = ((n / 256 ^ (i + 1) : Nat) : Int) := by
      have : n / 256 ^ i ≤ n := Nat.div_le_self _ _
      rw [Nat.pow_succ, ← Nat.div_div_eq_div_mul]
      generalize n / 256 ^ i = q at this ⊢
      rw [Int.tdiv_eq_ediv_of_nonneg (by omega), IntWalk.u64_in _ (by omega)]; omega
    have e3 : IntKind.i64.wrap ((i : Int) + 1) = ((i + 1 : Nat) : Int) := IntWalk.i64_in _ (by omega)
    ((try first | refine walk_aw env_ok (none) ?_ | refine walk_aw envR_ok (none) ?_); try simp -implicitDefEqProofs (maxSteps := 1000000) only [go_sem, ↓reduceIte, reduceCtorEq, Nat.reduceLT, Nat.reduceEqDiff, Nat.reduceBEq, Nat.reduceAdd, Nat.reduceMul, Nat.reduceSub, Nat.reduceLeDiff, Int.reduceNeg, Int.reduceLT, Int.reduceLE, Int.reduceEq, Int.reduceAdd, Int.reduceToNat, s7, s8, s0, c1, c2, e2, e3])
    exact ⟨⟨i + 1, by omega, by omega, rfl, rfl⟩, by omega⟩
  · by_cases c8 : k = 8
    · have hi0 := hi8 c8
      subst hi0
      subst c8
      rw [decide_eq_true (by omega)] at h
      ((try first | refine walk_aw env_ok (none) ?_ | refine walk_aw envR_ok (none) ?_); try simp -implicitDefEqProofs (maxSteps := 1000000) only [go_sem, ↓reduceIte, reduceCtorEq, Nat.reduceLT, Nat.reduceEqDiff, Nat.reduceBEq, Nat.reduceAdd, Nat.reduceMul, Nat.reduceSub, Nat.reduceLeDiff, Int.reduceNeg, Int.reduceLT, Int.reduceLE, Int.reduceEq, Int.reduceAdd, Int.reduceToNat, s7, s8, s0])
      exact .inl h
    · have hik : i = k := by omega
      subst hik
      have c1 : ¬ (i : Int) < (i : Int) := by omega
      by_cases c0 : i = 0
      · subst c0
        rw [decide_eq_true (by omega)] at h
        ((try first | refine walk_aw env_ok (none) ?_ | refine walk_aw envR_ok (none) ?_); try simp -implicitDefEqProofs (maxSteps := 1000000) only [go_sem, ↓reduceIte, reduceCtorEq, Nat.reduceLT, Nat.reduceEqDiff, Nat.reduceBEq, Nat.reduceAdd, Nat.reduceMul, Nat.reduceSub, Nat.reduceLeDiff, Int.reduceNeg, Int.reduceLT, Int.reduceLE, Int.reduceEq, Int.reduceAdd, Int.reduceToNat, s7, s8, s0, c1])
        exact .inl h
      · have d0 : ¬ (i : Int) = 0 := by omega
        have d8 : ¬ (i : Int) = 8 := by omega
        rw [show decide ((i : Int) = 0 ∨ (i : Int) = 8 ∨ n / 256 ^ i = 0) = decide (((n / 256 ^ i : Nat) : Int) = 0) from decide_eq_decide.2 (by omega)] at h
        ((try first | refine walk_aw env_ok (none) ?_ | refine walk_aw envR_ok (none) ?_); try simp -implicitDefEqProofs (maxSteps := 1000000) only [go_sem, ↓reduceIte, reduceCtorEq, Nat.reduceLT, Nat.reduceEqDiff, Nat.reduceBEq, Nat.reduceAdd, Nat.reduceMul, Nat.reduceSub, Nat.reduceLeDiff, Int.reduceNeg, Int.reduceLT, Int.reduceLE, Int.reduceEq, Int.reduceAdd, Int.reduceToNat, s7, s8, s0, c1, d0, d8])
        exact .inl h

theorem Same_spec {x y : RV} (h : Q (.bool (rawSame x y)) H) : AC Tryd.prog 20 [.agg x.cells, .agg y.cells] H Q := by
  have eq_spec : ∀ {a b : List UInt8} {G : Heap} {R : A → Heap → Prop}, R (.bool (decide (a = b))) G → AC Tryd.prog 42 [.sl (bA a) none (), .sl (bA b) none ()] G R := by
    intro a b G R hh
    refine AC.enter (E := env Tryd.prog 10 (fun _ => .copy) (fun _ => false)) env_ok Tryd.func42 rfl rfl rfl (by simp only [List.length_cons, List.length_nil]; exact of_decide_eq_true rfl) ?_
    by_cases e : a = b
    · rw [decide_eq_true e] at hh
      ((try first | refine walk_aw env_ok (none) ?_ | refine walk_aw envR_ok (none) ?_); try simp -implicitDefEqProofs (maxSteps := 1000000) only [go_sem, ↓reduceIte, reduceCtorEq, Nat.reduceLT, Nat.reduceEqDiff, Nat.reduceBEq, Nat.reduceAdd, Nat.reduceMul, Nat.reduceSub, Nat.reduceLeDiff, Int.reduceNeg, Int.reduceLT, Int.reduceLE, Int.reduceEq, Int.reduceAdd, Int.reduceToNat, e])
      exact .inl hh
    · rw [decide_eq_false e] at hh
      ((try first | refine walk_aw env_ok (none) ?_ | refine walk_aw envR_ok (none) ?_); try simp -implicitDefEqProofs (maxSteps := 1000000) only [go_sem, ↓reduceIte, reduceCtorEq, Nat.reduceLT, Nat.reduceEqDiff, Nat.reduceBEq, Nat.reduceAdd, Nat.reduceMul, Nat.reduceSub, Nat.reduceLeDiff, Int.reduceNeg, Int.reduceLT, Int.reduceLE, Int.reduceEq, Int.reduceAdd, Int.reduceToNat, str_ne e])
      exact .inl hh
  refine AC.enter (E := env Tryd.prog 38 (fun _ => .copy) (fun _ => false)) env_ok Tryd.func20 rfl rfl rfl (by simp only [List.length_cons, List.length_nil]; exact of_decide_eq_true rfl) ?_
  rw [rawSame] at h
  by_cases e1 : x.form = y.form
  · rw [decide_eq_true e1, Bool.true_and] at h
    by_cases e2 : x.u = y.u
    · rw [decide_eq_true e2, Bool.true_and] at h
      by_cases e3 : x.s = y.s
      · rw [decide_eq_true e3, Bool.true_and] at h
        ((try first | refine walk_aw env_ok (none) ?_ | refine walk_aw envR_ok (none) ?_); try simp -implicitDefEqProofs (maxSteps := 1000000) only [go_sem, ↓reduceIte, reduceCtorEq, Nat.reduceLT, Nat.reduceEqDiff, Nat.reduceBEq, Nat.reduceAdd, Nat.reduceMul, Nat.reduceSub, Nat.reduceLeDiff, Int.reduceNeg, Int.reduceLT, Int.reduceLE, Int.reduceEq, Int.reduceAdd, Int.reduceToNat, e1, e2, e3])
        refine eq_spec ?_
        by_cases e4 : x.b = y.b
        · rw [decide_eq_true e4, Bool.true_and] at h
          ((try first | refine walk_aw env_ok (none) ?_ | refine walk_aw envR_ok (none) ?_); try simp -implicitDefEqProofs (maxSteps := 1000000) only [go_sem, ↓reduceIte, reduceCtorEq, Nat.reduceLT, Nat.reduceEqDiff, Nat.reduceBEq, Nat.reduceAdd, Nat.reduceMul, Nat.reduceSub, Nat.reduceLeDiff, Int.reduceNeg, Int.reduceLT, Int.reduceLE, Int.reduceEq, Int.reduceAdd, Int.reduceToNat, e4])
          exact .inr h
        · rw [decide_eq_false e4, Bool.false_and] at h
          ((try first | refine walk_aw env_ok (none) ?_ | refine walk_aw envR_ok (none) ?_); try simp -implicitDefEqProofs (maxSteps := 1000000) only [go_sem, ↓reduceIte, reduceCtorEq, Nat.reduceLT, Nat.reduceEqDiff, Nat.reduceBEq, Nat.reduceAdd, Nat.reduceMul, Nat.reduceSub, Nat.reduceLeDiff, Int.reduceNeg, Int.reduceLT, Int.reduceLE, Int.reduceEq, Int.reduceAdd, Int.reduceToNat, e4])
          exact .inr h
      · rw [decide_eq_false e3, Bool.false_and] at h
        ((try first | refine walk_aw env_ok (none) ?_ | refine walk_aw envR_ok (none) ?_); try simp -implicitDefEqProofs (maxSteps := 1000000) only [go_sem, ↓reduceIte, reduceCtorEq, Nat.reduceLT, Nat.reduceEqDiff, Nat.reduceBEq, Nat.reduceAdd, Nat.reduceMul, Nat.reduceSub, Nat.reduceLeDiff, Int.reduceNeg, Int.reduceLT, Int.reduceLE, Int.reduceEq, Int.reduceAdd, Int.reduceToNat, e1, e2, e3])
        exact .inr h
    · rw [decide_eq_false e2, Bool.false_and] at h
      have e2' : ¬ (x.u : Int) = (y.u : Int) := by omega
      ((try first | refine walk_aw env_ok (none) ?_ | refine walk_aw envR_ok (none) ?_); try simp -implicitDefEqProofs (maxSteps := 1000000) only [go_sem, ↓reduceIte, reduceCtorEq, Nat.reduceLT, Nat.reduceEqDiff, Nat.reduceBEq, Nat.reduceAdd, Nat.reduceMul, Nat.reduceSub, Nat.reduceLeDiff, Int.reduceNeg, Int.reduceLT, Int.reduceLE, Int.reduceEq, Int.reduceAdd, Int.reduceToNat, e1, e2'])
      exact .inr h
  · rw [decide_eq_false e1, Bool.false_and] at h
    ((try first | refine walk_aw env_ok (none) ?_ | refine walk_aw envR_ok (none) ?_); try simp -implicitDefEqProofs (maxSteps := 1000000) only [go_sem, ↓reduceIte, reduceCtorEq, Nat.reduceLT, Nat.reduceEqDiff, Nat.reduceBEq, Nat.reduceAdd, Nat.reduceMul, Nat.reduceSub, Nat.reduceLeDiff, Int.reduceNeg, Int.reduceLT, Int.reduceLE, Int.reduceEq, Int.reduceAdd, Int.reduceToNat, e1])
    exact .inr h
end
end Go.Ab
end

section
/- Package sindriref14: Right and Put. -/
namespace Go.Ab
open V Go.Proofs
set_option maxHeartbeats 4000000
set_option maxRecDepth 10000
set_option linter.unusedSimpArgs false
set_option linter.unusedVariables false

theorem kd_forms {f : Int} : (f = 25 → kd f = 4) ∧ (f = 33 → kd f = 3) ∧ (f = 13 → kd f = 3) ∧ (f = 8 → kd f = 5) ∧ (f = 30 → kd f = 9) := by
  refine ⟨?_, ?_, ?_, ?_, ?_⟩ <;> (rintro rfl; rfl)
theorem textOk_nil : textOk ⟨#[]⟩ = true := by decide
theorem numB_rel {n : Nat} {f : Int} {w : Bool} (h0 : kd f ≠ 0) (h1 : f ≠ 25) (h2 : f ≠ 33) (h3 : f ≠ 13) (h4 : f ≠ 8) (h5 : f ≠ 30) :
    (if szr f w = 0 then putU n else leB (min (max (szr f w) 0) 8).toNat n) = numB n (szf f) w := by
  obtain ⟨k, hk, rfl⟩ := kd_in h0
  rw [kd_nat hk] at h0
  rw [szr_nat hk, szf_nat hk, numB, zz]
  rcases size_rel k hk with c | ⟨c1, c2⟩ | ⟨c1, c2, c3⟩
  · exfalso
    rcases c with c | c | c | c
    · omega
    · omega
    · exact h0 c
    · rcases other_rel k hk c with c | c | c <;> omega
  · rw [c2, if_pos c1]; rfl
  · rw [c2, if_neg c1]
    by_cases c4 : sizeL.getD k 0 = -2
    · rw [if_pos c4, if_neg (by split <;> omega)]
    · rw [if_neg c4, if_neg c3]

section
variable {H : Heap} {Q : A → Heap → Prop}
theorem fits0_spec {f : Int} {w : Bool} (h : Q (.bool true) H) : AC Tryd.prog 40 [.int .u64 0, .int .i64 f, .bool w] H Q := by
  have := fits_spec (n := 0) (f := f) (w := w) (Q := Q) (H := H) (by omega) (by rw [fitsD, decide_eq_true (by simp)]; exact h)
  exact this

theorem rRightV_spec {r : RV} {w : Bool} (hr : r.In) (h : Q (.bool (rawRight r w)) H) : AC Tryd.prog 19 [.agg r.cells, .bool w] H Q := by
  obtain ⟨q1, q2, q3, q4, q5⟩ := kd_forms (f := r.form)
  have hu := hr.u
  have hbl := hr.b
  have htl := hr.t
  have z0 : ¬ (0 : Int) > 0 := by decide
  refine AC.enter (E := env Tryd.prog 88 (fun _ => .copy) (fun _ => false)) env_ok Tryd.func19 rfl rfl rfl (by simp only [List.length_cons, List.length_nil]; exact of_decide_eq_true rfl) ?_
  ((try first | refine walk_aw env_ok (none) ?_ | refine walk_aw envR_ok (none) ?_); try simp -implicitDefEqProofs (maxSteps := 1000000) only [go_sem, ↓reduceIte, reduceCtorEq, Nat.reduceLT, Nat.reduceEqDiff, Nat.reduceBEq, Nat.reduceAdd, Nat.reduceMul, Nat.reduceSub, Nat.reduceLeDiff, Int.reduceNeg, Int.reduceLT, Int.reduceLE, Int.reduceEq, Int.reduceAdd, Int.reduceToNat, RV.cells, z0])
  refine rKind_spec ?_
  by_cases k0 : kd r.form = 0
  · rw [show rawRight r w = false by rw [rawRight, if_pos (.inl k0)]] at h
    ((try first | refine walk_aw env_ok (none) ?_ | refine walk_aw envR_ok (none) ?_); try simp -implicitDefEqProofs (maxSteps := 1000000) only [go_sem, ↓reduceIte, reduceCtorEq, Nat.reduceLT, Nat.reduceEqDiff, Nat.reduceBEq, Nat.reduceAdd, Nat.reduceMul, Nat.reduceSub, Nat.reduceLeDiff, Int.reduceNeg, Int.reduceLT, Int.reduceLE, Int.reduceEq, Int.reduceAdd, Int.reduceToNat, k0, z0])
    exact .inr h
  by_cases b1 : kd r.form = 3
  · have n25 : ¬ r.form = 25 := by omega
    have n30 : ¬ r.form = 30 := by omega
    by_cases u0 : r.u = 0
    · have u1 : (r.u : Int) = 0 := by omega
      by_cases l0 : r.b.length > 0
      · have l1 : (r.b.length : Int) > 0 := by omega
        rw [show rawRight r w = false by rw [rawRight, if_pos (.inr (.inr (.inr ⟨by omega, by omega, l0⟩)))]] at h
        ((try first | refine walk_aw env_ok (none) ?_ | refine walk_aw envR_ok (none) ?_); try simp -implicitDefEqProofs (maxSteps := 1000000) only [go_sem, ↓reduceIte, reduceCtorEq, Nat.reduceLT, Nat.reduceEqDiff, Nat.reduceBEq, Nat.reduceAdd, Nat.reduceMul, Nat.reduceSub, Nat.reduceLeDiff, Int.reduceNeg, Int.reduceLT, Int.reduceLE, Int.reduceEq, Int.reduceAdd, Int.reduceToNat, b1, u1, l1, z0])
        exact .inr h
      have l1 : ¬ (r.b.length : Int) > 0 := by omega
      by_cases t0 : r.t = ⟨#[]⟩
      · rw [show rawRight r w = true by rw [rawRight, if_neg (by rintro (c | c | c | c) <;> first | omega | exact c.2 t0), if_neg n25, if_pos (.inl b1), decide_eq_true u0, t0, textOk_nil]; rfl] at h
        ((try first | refine walk_aw env_ok (none) ?_ | refine walk_aw envR_ok (none) ?_); try simp -implicitDefEqProofs (maxSteps := 1000000) only [go_sem, ↓reduceIte, reduceCtorEq, Nat.reduceLT, Nat.reduceEqDiff, Nat.reduceBEq, Nat.reduceAdd, Nat.reduceMul, Nat.reduceSub, Nat.reduceLeDiff, Int.reduceNeg, Int.reduceLT, Int.reduceLE, Int.reduceEq, Int.reduceAdd, Int.reduceToNat, b1, u1, l1, t0, n25, n30, z0])
        refine rRight_spec (by decide) ?_
        rw [textOk_nil]
        ((try first | refine walk_aw env_ok (none) ?_ | refine walk_aw envR_ok (none) ?_); try simp -implicitDefEqProofs (maxSteps := 1000000) only [go_sem, ↓reduceIte, reduceCtorEq, Nat.reduceLT, Nat.reduceEqDiff, Nat.reduceBEq, Nat.reduceAdd, Nat.reduceMul, Nat.reduceSub, Nat.reduceLeDiff, Int.reduceNeg, Int.reduceLT, Int.reduceLE, Int.reduceEq, Int.reduceAdd, Int.reduceToNat, u1, z0])
        refine fits0_spec ?_
        ((try first | refine walk_aw env_ok (none) ?_ | refine walk_aw envR_ok (none) ?_); try simp -implicitDefEqProofs (maxSteps := 1000000) only [go_sem, ↓reduceIte, reduceCtorEq, Nat.reduceLT, Nat.reduceEqDiff, Nat.reduceBEq, Nat.reduceAdd, Nat.reduceMul, Nat.reduceSub, Nat.reduceLeDiff, Int.reduceNeg, Int.reduceLT, Int.reduceLE, Int.reduceEq, Int.reduceAdd, Int.reduceToNat])
        exact .inr h
      · rw [show rawRight r w = false by rw [rawRight, if_pos (.inr (.inr (.inl ⟨by omega, t0⟩)))]] at h
        ((try first | refine walk_aw env_ok (none) ?_ | refine walk_aw envR_ok (none) ?_); try simp -implicitDefEqProofs (maxSteps := 1000000) only [go_sem, ↓reduceIte, reduceCtorEq, Nat.reduceLT, Nat.reduceEqDiff, Nat.reduceBEq, Nat.reduceAdd, Nat.reduceMul, Nat.reduceSub, Nat.reduceLeDiff, Int.reduceNeg, Int.reduceLT, Int.reduceLE, Int.reduceEq, Int.reduceAdd, Int.reduceToNat, b1, u1, l1, t0, z0])
        exact .inr h
    · have u1 : ¬ (r.u : Int) = 0 := by omega
      rw [show rawRight r w = false by
        rw [rawRight, if_neg n25, if_pos (show kd r.form = 3 ∨ kd r.form = 5 from .inl b1), decide_eq_false u0, Bool.false_and]; split <;> rfl] at h
      ((try first | refine walk_aw env_ok (none) ?_ | refine walk_aw envR_ok (none) ?_); try simp -implicitDefEqProofs (maxSteps := 1000000) only [go_sem, ↓reduceIte, reduceCtorEq, Nat.reduceLT, Nat.reduceEqDiff, Nat.reduceBEq, Nat.reduceAdd, Nat.reduceMul, Nat.reduceSub, Nat.reduceLeDiff, Int.reduceNeg, Int.reduceLT, Int.reduceLE, Int.reduceEq, Int.reduceAdd, Int.reduceToNat, b1, u1, z0])
      exact .inr h
  by_cases s0 : ¬ r.s = 0
  · rw [show rawRight r w = false by rw [rawRight, if_pos (.inr (.inl ⟨b1, s0⟩))]] at h
    by_cases b5 : kd r.form = 5
    · by_cases u0 : (r.u : Int) = 0
      · ((try first | refine walk_aw env_ok (none) ?_ | refine walk_aw envR_ok (none) ?_); try simp -implicitDefEqProofs (maxSteps := 1000000) only [go_sem, ↓reduceIte, reduceCtorEq, Nat.reduceLT, Nat.reduceEqDiff, Nat.reduceBEq, Nat.reduceAdd, Nat.reduceMul, Nat.reduceSub, Nat.reduceLeDiff, Int.reduceNeg, Int.reduceLT, Int.reduceLE, Int.reduceEq, Int.reduceAdd, Int.reduceToNat, b1, b5, u0, s0, z0])
        exact .inr h
      · ((try first | refine walk_aw env_ok (none) ?_ | refine walk_aw envR_ok (none) ?_); try simp -implicitDefEqProofs (maxSteps := 1000000) only [go_sem, ↓reduceIte, reduceCtorEq, Nat.reduceLT, Nat.reduceEqDiff, Nat.reduceBEq, Nat.reduceAdd, Nat.reduceMul, Nat.reduceSub, Nat.reduceLeDiff, Int.reduceNeg, Int.reduceLT, Int.reduceLE, Int.reduceEq, Int.reduceAdd, Int.reduceToNat, b1, b5, u0, z0])
        exact .inr h
    · by_cases b9 : kd r.form = 9
      · by_cases u0 : (r.u : Int) = 0
        · ((try first | refine walk_aw env_ok (none) ?_ | refine walk_aw envR_ok (none) ?_); try simp -implicitDefEqProofs (maxSteps := 1000000) only [go_sem, ↓reduceIte, reduceCtorEq, Nat.reduceLT, Nat.reduceEqDiff, Nat.reduceBEq, Nat.reduceAdd, Nat.reduceMul, Nat.reduceSub, Nat.reduceLeDiff, Int.reduceNeg, Int.reduceLT, Int.reduceLE, Int.reduceEq, Int.reduceAdd, Int.reduceToNat, b9, u0, s0, z0])
          exact .inr h
        · ((try first | refine walk_aw env_ok (none) ?_ | refine walk_aw envR_ok (none) ?_); try simp -implicitDefEqProofs (maxSteps := 1000000) only [go_sem, ↓reduceIte, reduceCtorEq, Nat.reduceLT, Nat.reduceEqDiff, Nat.reduceBEq, Nat.reduceAdd, Nat.reduceMul, Nat.reduceSub, Nat.reduceLeDiff, Int.reduceNeg, Int.reduceLT, Int.reduceLE, Int.reduceEq, Int.reduceAdd, Int.reduceToNat, b9, u0, z0])
          exact .inr h
      · by_cases b10 : kd r.form = 10
        · by_cases u0 : (r.u : Int) = 0
          · ((try first | refine walk_aw env_ok (none) ?_ | refine walk_aw envR_ok (none) ?_); try simp -implicitDefEqProofs (maxSteps := 1000000) only [go_sem, ↓reduceIte, reduceCtorEq, Nat.reduceLT, Nat.reduceEqDiff, Nat.reduceBEq, Nat.reduceAdd, Nat.reduceMul, Nat.reduceSub, Nat.reduceLeDiff, Int.reduceNeg, Int.reduceLT, Int.reduceLE, Int.reduceEq, Int.reduceAdd, Int.reduceToNat, b10, u0, s0, z0])
            exact .inr h
          · ((try first | refine walk_aw env_ok (none) ?_ | refine walk_aw envR_ok (none) ?_); try simp -implicitDefEqProofs (maxSteps := 1000000) only [go_sem, ↓reduceIte, reduceCtorEq, Nat.reduceLT, Nat.reduceEqDiff, Nat.reduceBEq, Nat.reduceAdd, Nat.reduceMul, Nat.reduceSub, Nat.reduceLeDiff, Int.reduceNeg, Int.reduceLT, Int.reduceLE, Int.reduceEq, Int.reduceAdd, Int.reduceToNat, b10, u0, z0])
            exact .inr h
        · ((try first | refine walk_aw env_ok (none) ?_ | refine walk_aw envR_ok (none) ?_); try simp -implicitDefEqProofs (maxSteps := 1000000) only [go_sem, ↓reduceIte, reduceCtorEq, Nat.reduceLT, Nat.reduceEqDiff, Nat.reduceBEq, Nat.reduceAdd, Nat.reduceMul, Nat.reduceSub, Nat.reduceLeDiff, Int.reduceNeg, Int.reduceLT, Int.reduceLE, Int.reduceEq, Int.reduceAdd, Int.reduceToNat, k0, b1, b5, b9, b10, s0, z0])
          exact .inr h
  have s1 : r.s = 0 := by omega
  by_cases b5 : kd r.form = 5
  · have n25 : ¬ r.form = 25 := by omega
    have n30 : ¬ r.form = 30 := by omega
    by_cases u0 : r.u = 0
    · have u1 : (r.u : Int) = 0 := by omega
      by_cases l0 : r.b.length > 0
      · have l1 : (r.b.length : Int) > 0 := by omega
        rw [show rawRight r w = false by rw [rawRight, if_pos (.inr (.inr (.inr ⟨by omega, by omega, l0⟩)))]] at h
        ((try first | refine walk_aw env_ok (none) ?_ | refine walk_aw envR_ok (none) ?_); try simp -implicitDefEqProofs (maxSteps := 1000000) only [go_sem, ↓reduceIte, reduceCtorEq, Nat.reduceLT, Nat.reduceEqDiff, Nat.reduceBEq, Nat.reduceAdd, Nat.reduceMul, Nat.reduceSub, Nat.reduceLeDiff, Int.reduceNeg, Int.reduceLT, Int.reduceLE, Int.reduceEq, Int.reduceAdd, Int.reduceToNat, b5, u1, s1, l1, z0])
        exact .inr h
      have l1 : ¬ (r.b.length : Int) > 0 := by omega
      rw [show rawRight r w = textOk r.t by rw [rawRight, if_neg (by rintro (c | c | c | c) <;> omega), if_neg n25, if_pos (.inr b5), decide_eq_true u0, Bool.true_and]] at h
      ((try first | refine walk_aw env_ok (none) ?_ | refine walk_aw envR_ok (none) ?_); try simp -implicitDefEqProofs (maxSteps := 1000000) only [go_sem, ↓reduceIte, reduceCtorEq, Nat.reduceLT, Nat.reduceEqDiff, Nat.reduceBEq, Nat.reduceAdd, Nat.reduceMul, Nat.reduceSub, Nat.reduceLeDiff, Int.reduceNeg, Int.reduceLT, Int.reduceLE, Int.reduceEq, Int.reduceAdd, Int.reduceToNat, b5, u1, s1, l1, n25, n30, z0])
      refine rRight_spec (by omega) ?_
      cases ht : textOk r.t with
      | true =>
        rw [ht] at h
        ((try first | refine walk_aw env_ok (none) ?_ | refine walk_aw envR_ok (none) ?_); try simp -implicitDefEqProofs (maxSteps := 1000000) only [go_sem, ↓reduceIte, reduceCtorEq, Nat.reduceLT, Nat.reduceEqDiff, Nat.reduceBEq, Nat.reduceAdd, Nat.reduceMul, Nat.reduceSub, Nat.reduceLeDiff, Int.reduceNeg, Int.reduceLT, Int.reduceLE, Int.reduceEq, Int.reduceAdd, Int.reduceToNat, u1, z0])
        refine fits0_spec ?_
        ((try first | refine walk_aw env_ok (none) ?_ | refine walk_aw envR_ok (none) ?_); try simp -implicitDefEqProofs (maxSteps := 1000000) only [go_sem, ↓reduceIte, reduceCtorEq, Nat.reduceLT, Nat.reduceEqDiff, Nat.reduceBEq, Nat.reduceAdd, Nat.reduceMul, Nat.reduceSub, Nat.reduceLeDiff, Int.reduceNeg, Int.reduceLT, Int.reduceLE, Int.reduceEq, Int.reduceAdd, Int.reduceToNat])
        exact .inr h
      | false =>
        rw [ht] at h
        ((try first | refine walk_aw env_ok (none) ?_ | refine walk_aw envR_ok (none) ?_); try simp -implicitDefEqProofs (maxSteps := 1000000) only [go_sem, ↓reduceIte, reduceCtorEq, Nat.reduceLT, Nat.reduceEqDiff, Nat.reduceBEq, Nat.reduceAdd, Nat.reduceMul, Nat.reduceSub, Nat.reduceLeDiff, Int.reduceNeg, Int.reduceLT, Int.reduceLE, Int.reduceEq, Int.reduceAdd, Int.reduceToNat])
        exact .inr h
    · have u1 : ¬ (r.u : Int) = 0 := by omega
      rw [show rawRight r w = false by
        rw [rawRight, if_neg n25, if_pos (show kd r.form = 3 ∨ kd r.form = 5 from .inr b5), decide_eq_false u0, Bool.false_and]; split <;> rfl] at h
      ((try first | refine walk_aw env_ok (none) ?_ | refine walk_aw envR_ok (none) ?_); try simp -implicitDefEqProofs (maxSteps := 1000000) only [go_sem, ↓reduceIte, reduceCtorEq, Nat.reduceLT, Nat.reduceEqDiff, Nat.reduceBEq, Nat.reduceAdd, Nat.reduceMul, Nat.reduceSub, Nat.reduceLeDiff, Int.reduceNeg, Int.reduceLT, Int.reduceLE, Int.reduceEq, Int.reduceAdd, Int.reduceToNat, b5, u1, z0])
      exact .inr h
  by_cases t0 : ¬ r.t = ⟨#[]⟩
  · rw [show rawRight r w = false by rw [rawRight, if_pos (.inr (.inr (.inl ⟨b5, t0⟩)))]] at h
    by_cases b9 : kd r.form = 9 ∨ kd r.form = 10
    · have b9' : kd r.form = 9 ∨ (¬ kd r.form = 9 ∧ kd r.form = 10) := by omega
      rcases b9' with b9 | ⟨_, b9⟩
      · by_cases u0 : (r.u : Int) = 0
        · ((try first | refine walk_aw env_ok (none) ?_ | refine walk_aw envR_ok (none) ?_); try simp -implicitDefEqProofs (maxSteps := 1000000) only [go_sem, ↓reduceIte, reduceCtorEq, Nat.reduceLT, Nat.reduceEqDiff, Nat.reduceBEq, Nat.reduceAdd, Nat.reduceMul, Nat.reduceSub, Nat.reduceLeDiff, Int.reduceNeg, Int.reduceLT, Int.reduceLE, Int.reduceEq, Int.reduceAdd, Int.reduceToNat, b9, u0, s1, t0, z0])
          exact .inr h
        · ((try first | refine walk_aw env_ok (none) ?_ | refine walk_aw envR_ok (none) ?_); try simp -implicitDefEqProofs (maxSteps := 1000000) only [go_sem, ↓reduceIte, reduceCtorEq, Nat.reduceLT, Nat.reduceEqDiff, Nat.reduceBEq, Nat.reduceAdd, Nat.reduceMul, Nat.reduceSub, Nat.reduceLeDiff, Int.reduceNeg, Int.reduceLT, Int.reduceLE, Int.reduceEq, Int.reduceAdd, Int.reduceToNat, b9, u0, z0])
          exact .inr h
      · by_cases u0 : (r.u : Int) = 0
        · ((try first | refine walk_aw env_ok (none) ?_ | refine walk_aw envR_ok (none) ?_); try simp -implicitDefEqProofs (maxSteps := 1000000) only [go_sem, ↓reduceIte, reduceCtorEq, Nat.reduceLT, Nat.reduceEqDiff, Nat.reduceBEq, Nat.reduceAdd, Nat.reduceMul, Nat.reduceSub, Nat.reduceLeDiff, Int.reduceNeg, Int.reduceLT, Int.reduceLE, Int.reduceEq, Int.reduceAdd, Int.reduceToNat, b9, u0, s1, t0, z0])
          exact .inr h
        · ((try first | refine walk_aw env_ok (none) ?_ | refine walk_aw envR_ok (none) ?_); try simp -implicitDefEqProofs (maxSteps := 1000000) only [go_sem, ↓reduceIte, reduceCtorEq, Nat.reduceLT, Nat.reduceEqDiff, Nat.reduceBEq, Nat.reduceAdd, Nat.reduceMul, Nat.reduceSub, Nat.reduceLeDiff, Int.reduceNeg, Int.reduceLT, Int.reduceLE, Int.reduceEq, Int.reduceAdd, Int.reduceToNat, b9, u0, z0])
          exact .inr h
    · have b9a : ¬ kd r.form = 9 := fun c => b9 (.inl c)
      have b9b : ¬ kd r.form = 10 := fun c => b9 (.inr c)
      by_cases l0 : (r.b.length : Int) > 0
      · ((try first | refine walk_aw env_ok (none) ?_ | refine walk_aw envR_ok (none) ?_); try simp -implicitDefEqProofs (maxSteps := 1000000) only [go_sem, ↓reduceIte, reduceCtorEq, Nat.reduceLT, Nat.reduceEqDiff, Nat.reduceBEq, Nat.reduceAdd, Nat.reduceMul, Nat.reduceSub, Nat.reduceLeDiff, Int.reduceNeg, Int.reduceLT, Int.reduceLE, Int.reduceEq, Int.reduceAdd, Int.reduceToNat, k0, b1, b5, b9a, b9b, s1, l0, z0])
        exact .inr h
      · ((try first | refine walk_aw env_ok (none) ?_ | refine walk_aw envR_ok (none) ?_); try simp -implicitDefEqProofs (maxSteps := 1000000) only [go_sem, ↓reduceIte, reduceCtorEq, Nat.reduceLT, Nat.reduceEqDiff, Nat.reduceBEq, Nat.reduceAdd, Nat.reduceMul, Nat.reduceSub, Nat.reduceLeDiff, Int.reduceNeg, Int.reduceLT, Int.reduceLE, Int.reduceEq, Int.reduceAdd, Int.reduceToNat, k0, b1, b5, b9a, b9b, s1, l0, t0, z0])
        exact .inr h
  have t1 : r.t = ⟨#[]⟩ := by by_cases c : r.t = ⟨#[]⟩; exact c; exact absurd c t0
  by_cases b9 : kd r.form = 9 ∨ kd r.form = 10
  · have n25 : ¬ r.form = 25 := by omega
    have b9' : kd r.form = 9 ∨ kd r.form = 10 := b9
    have lw : IntKind.u64.wrap (r.b.length : Int) = (r.b.length : Int) := IntWalk.u64_in _ (by omega)
    have base : rawRight r w = if r.form = 30 then decide (r.u = 0) && decide (r.b.length = 16) else decide (r.u = 0) && (decide (r.b.length ≤ 65536) && fitsR r.b.length (szf r.form) w) := by
      rw [rawRight, if_neg (by rintro (c | c | c | c) <;> first | omega | exact c.2 t1), if_neg n25, if_neg (by omega), if_pos b9]
    rw [base] at h
    by_cases u0 : r.u = 0
    · have u1 : (r.u : Int) = 0 := by omega
      rw [decide_eq_true u0, Bool.true_and, Bool.true_and] at h
      by_cases n30 : r.form = 30
      · rw [if_pos n30, show decide (r.b.length = 16) = decide ((r.b.length : Int) = 16) from decide_eq_decide.2 (by omega)] at h
        ((try first | refine walk_aw env_ok (none) ?_ | refine walk_aw envR_ok (none) ?_); try simp -implicitDefEqProofs (maxSteps := 1000000) only [go_sem, ↓reduceIte, reduceCtorEq, Nat.reduceLT, Nat.reduceEqDiff, Nat.reduceBEq, Nat.reduceAdd, Nat.reduceMul, Nat.reduceSub, Nat.reduceLeDiff, Int.reduceNeg, Int.reduceLT, Int.reduceLE, Int.reduceEq, Int.reduceAdd, Int.reduceToNat, show kd 30 = 9 from rfl, n30, u1, s1, t1, z0])
        exact .inr h
      · rw [if_neg n30] at h
        have n33 : r.form ≠ 33 := by omega
        have n13 : r.form ≠ 13 := by omega
        have n8 : r.form ≠ 8 := by omega
        rw [← fits_rel k0 n25 n33 n13 n8 n30] at h
        by_cases d : r.b.length ≤ 65536
        · have d' : (r.b.length : Int) ≤ 65536 := by omega
          rw [decide_eq_true d, Bool.true_and] at h
          rcases b9' with b9 | b9
          · ((try first | refine walk_aw env_ok (none) ?_ | refine walk_aw envR_ok (none) ?_); try simp -implicitDefEqProofs (maxSteps := 1000000) only [go_sem, ↓reduceIte, reduceCtorEq, Nat.reduceLT, Nat.reduceEqDiff, Nat.reduceBEq, Nat.reduceAdd, Nat.reduceMul, Nat.reduceSub, Nat.reduceLeDiff, Int.reduceNeg, Int.reduceLT, Int.reduceLE, Int.reduceEq, Int.reduceAdd, Int.reduceToNat, b9, u1, s1, t1, n25, n30, d', lw, z0])
            refine fits_spec (by omega) ?_
            ((try first | refine walk_aw env_ok (none) ?_ | refine walk_aw envR_ok (none) ?_); try simp -implicitDefEqProofs (maxSteps := 1000000) only [go_sem, ↓reduceIte, reduceCtorEq, Nat.reduceLT, Nat.reduceEqDiff, Nat.reduceBEq, Nat.reduceAdd, Nat.reduceMul, Nat.reduceSub, Nat.reduceLeDiff, Int.reduceNeg, Int.reduceLT, Int.reduceLE, Int.reduceEq, Int.reduceAdd, Int.reduceToNat])
            exact .inr h
          · ((try first | refine walk_aw env_ok (none) ?_ | refine walk_aw envR_ok (none) ?_); try simp -implicitDefEqProofs (maxSteps := 1000000) only [go_sem, ↓reduceIte, reduceCtorEq, Nat.reduceLT, Nat.reduceEqDiff, Nat.reduceBEq, Nat.reduceAdd, Nat.reduceMul, Nat.reduceSub, Nat.reduceLeDiff, Int.reduceNeg, Int.reduceLT, Int.reduceLE, Int.reduceEq, Int.reduceAdd, Int.reduceToNat, b9, u1, s1, t1, n25, n30, d', lw, z0])
            refine fits_spec (by omega) ?_
            ((try first | refine walk_aw env_ok (none) ?_ | refine walk_aw envR_ok (none) ?_); try simp -implicitDefEqProofs (maxSteps := 1000000) only [go_sem, ↓reduceIte, reduceCtorEq, Nat.reduceLT, Nat.reduceEqDiff, Nat.reduceBEq, Nat.reduceAdd, Nat.reduceMul, Nat.reduceSub, Nat.reduceLeDiff, Int.reduceNeg, Int.reduceLT, Int.reduceLE, Int.reduceEq, Int.reduceAdd, Int.reduceToNat])
            exact .inr h
        · have d' : ¬ (r.b.length : Int) ≤ 65536 := by omega
          rw [decide_eq_false d, Bool.false_and] at h
          rcases b9' with b9 | b9
          · ((try first | refine walk_aw env_ok (none) ?_ | refine walk_aw envR_ok (none) ?_); try simp -implicitDefEqProofs (maxSteps := 1000000) only [go_sem, ↓reduceIte, reduceCtorEq, Nat.reduceLT, Nat.reduceEqDiff, Nat.reduceBEq, Nat.reduceAdd, Nat.reduceMul, Nat.reduceSub, Nat.reduceLeDiff, Int.reduceNeg, Int.reduceLT, Int.reduceLE, Int.reduceEq, Int.reduceAdd, Int.reduceToNat, b9, u1, s1, t1, n25, n30, d', z0])
            exact .inr h
          · ((try first | refine walk_aw env_ok (none) ?_ | refine walk_aw envR_ok (none) ?_); try simp -implicitDefEqProofs (maxSteps := 1000000) only [go_sem, ↓reduceIte, reduceCtorEq, Nat.reduceLT, Nat.reduceEqDiff, Nat.reduceBEq, Nat.reduceAdd, Nat.reduceMul, Nat.reduceSub, Nat.reduceLeDiff, Int.reduceNeg, Int.reduceLT, Int.reduceLE, Int.reduceEq, Int.reduceAdd, Int.reduceToNat, b9, u1, s1, t1, n25, n30, d', z0])
            exact .inr h
    · have u1 : ¬ (r.u : Int) = 0 := by omega
      rw [show (if r.form = 30 then decide (r.u = 0) && decide (r.b.length = 16) else decide (r.u = 0) && (decide (r.b.length ≤ 65536) && fitsR r.b.length (szf r.form) w)) = false by
        rw [decide_eq_false u0]; split <;> rfl] at h
      rcases b9' with b9 | b9
      · ((try first | refine walk_aw env_ok (none) ?_ | refine walk_aw envR_ok (none) ?_); try simp -implicitDefEqProofs (maxSteps := 1000000) only [go_sem, ↓reduceIte, reduceCtorEq, Nat.reduceLT, Nat.reduceEqDiff, Nat.reduceBEq, Nat.reduceAdd, Nat.reduceMul, Nat.reduceSub, Nat.reduceLeDiff, Int.reduceNeg, Int.reduceLT, Int.reduceLE, Int.reduceEq, Int.reduceAdd, Int.reduceToNat, b9, u1, z0])
        exact .inr h
      · ((try first | refine walk_aw env_ok (none) ?_ | refine walk_aw envR_ok (none) ?_); try simp -implicitDefEqProofs (maxSteps := 1000000) only [go_sem, ↓reduceIte, reduceCtorEq, Nat.reduceLT, Nat.reduceEqDiff, Nat.reduceBEq, Nat.reduceAdd, Nat.reduceMul, Nat.reduceSub, Nat.reduceLeDiff, Int.reduceNeg, Int.reduceLT, Int.reduceLE, Int.reduceEq, Int.reduceAdd, Int.reduceToNat, b9, u1, z0])
        exact .inr h
  have b9a : ¬ kd r.form = 9 := fun c => b9 (.inl c)
  have b9b : ¬ kd r.form = 10 := fun c => b9 (.inr c)
  have n30 : ¬ r.form = 30 := by omega
  by_cases l0 : r.b.length > 0
  · have l1 : (r.b.length : Int) > 0 := by omega
    rw [show rawRight r w = false by rw [rawRight, if_pos (.inr (.inr (.inr ⟨b9a, b9b, l0⟩)))]] at h
    ((try first | refine walk_aw env_ok (none) ?_ | refine walk_aw envR_ok (none) ?_); try simp -implicitDefEqProofs (maxSteps := 1000000) only [go_sem, ↓reduceIte, reduceCtorEq, Nat.reduceLT, Nat.reduceEqDiff, Nat.reduceBEq, Nat.reduceAdd, Nat.reduceMul, Nat.reduceSub, Nat.reduceLeDiff, Int.reduceNeg, Int.reduceLT, Int.reduceLE, Int.reduceEq, Int.reduceAdd, Int.reduceToNat, k0, b1, b5, b9a, b9b, s1, l1, z0])
    exact .inr h
  have l1 : ¬ (r.b.length : Int) > 0 := by omega
  rw [rawRight, if_neg (by rintro (c | c | c | c) <;> first | omega | exact c.2 t1)] at h
  by_cases n25 : r.form = 25
  · rw [if_pos n25, show decide (r.u = 1) = decide ((r.u : Int) = 1) from decide_eq_decide.2 (by omega)] at h
    ((try first | refine walk_aw env_ok (none) ?_ | refine walk_aw envR_ok (none) ?_); try simp -implicitDefEqProofs (maxSteps := 1000000) only [go_sem, ↓reduceIte, reduceCtorEq, Nat.reduceLT, Nat.reduceEqDiff, Nat.reduceBEq, Nat.reduceAdd, Nat.reduceMul, Nat.reduceSub, Nat.reduceLeDiff, Int.reduceNeg, Int.reduceLT, Int.reduceLE, Int.reduceEq, Int.reduceAdd, Int.reduceToNat, show kd 25 = 4 from rfl, n25, s1, l1, t1, z0])
    exact .inr h
  · rw [if_neg n25, if_neg (by omega), if_neg n30, if_neg b9, ← fits_rel k0 n25 (by omega) (by omega) (by omega) n30] at h
    ((try first | refine walk_aw env_ok (none) ?_ | refine walk_aw envR_ok (none) ?_); try simp -implicitDefEqProofs (maxSteps := 1000000) only [go_sem, ↓reduceIte, reduceCtorEq, Nat.reduceLT, Nat.reduceEqDiff, Nat.reduceBEq, Nat.reduceAdd, Nat.reduceMul, Nat.reduceSub, Nat.reduceLeDiff, Int.reduceNeg, Int.reduceLT, Int.reduceLE, Int.reduceEq, Int.reduceAdd, Int.reduceToNat, k0, b1, b5, b9a, b9b, s1, l1, t1, n25, n30, z0])
    refine rRight_spec (by decide) ?_
    rw [textOk_nil]
    ((try first | refine walk_aw env_ok (none) ?_ | refine walk_aw envR_ok (none) ?_); try simp -implicitDefEqProofs (maxSteps := 1000000) only [go_sem, ↓reduceIte, reduceCtorEq, Nat.reduceLT, Nat.reduceEqDiff, Nat.reduceBEq, Nat.reduceAdd, Nat.reduceMul, Nat.reduceSub, Nat.reduceLeDiff, Int.reduceNeg, Int.reduceLT, Int.reduceLE, Int.reduceEq, Int.reduceAdd, Int.reduceToNat])
    refine fits_spec hu ?_
    ((try first | refine walk_aw env_ok (none) ?_ | refine walk_aw envR_ok (none) ?_); try simp -implicitDefEqProofs (maxSteps := 1000000) only [go_sem, ↓reduceIte, reduceCtorEq, Nat.reduceLT, Nat.reduceEqDiff, Nat.reduceBEq, Nat.reduceAdd, Nat.reduceMul, Nat.reduceSub, Nat.reduceLeDiff, Int.reduceNeg, Int.reduceLT, Int.reduceLE, Int.reduceEq, Int.reduceAdd, Int.reduceToNat])
    exact .inr h

theorem rput_spec {n : Nat} {f : Int} {w : Bool} (hn : n < 18446744073709551616) (h0 : kd f ≠ 0) (h1 : f ≠ 25) (h2 : f ≠ 33) (h3 : f ≠ 13) (h4 : f ≠ 8) (h5 : f ≠ 30)
    (h : Q (.sl (bA (numB n (szf f) w)) (some 0) ()) H) : AC Tryd.prog 37 [.int .u64 n, .int .i64 f, .bool w] H Q := by
  rw [← numB_rel h0 h1 h2 h3 h4 h5] at h
  refine AC.enter (E := env Tryd.prog 18 (fun _ => .copy) (fun _ => false)) env_ok Tryd.func37 rfl rfl rfl (by simp only [List.length_cons, List.length_nil]; exact of_decide_eq_true rfl) ?_
  ((try first | refine walk_aw env_ok (none) ?_ | refine walk_aw envR_ok (none) ?_); try simp -implicitDefEqProofs (maxSteps := 1000000) only [go_sem, ↓reduceIte, reduceCtorEq, Nat.reduceLT, Nat.reduceEqDiff, Nat.reduceBEq, Nat.reduceAdd, Nat.reduceMul, Nat.reduceSub, Nat.reduceLeDiff, Int.reduceNeg, Int.reduceLT, Int.reduceLE, Int.reduceEq, Int.reduceAdd, Int.reduceToNat])
  refine rSize_spec ?_
  by_cases e : szr f w = 0
  · rw [if_pos e] at h
    ((try first | refine walk_aw env_ok (none) ?_ | refine walk_aw envR_ok (none) ?_); try simp -implicitDefEqProofs (maxSteps := 1000000) only [go_sem, ↓reduceIte, reduceCtorEq, Nat.reduceLT, Nat.reduceEqDiff, Nat.reduceBEq, Nat.reduceAdd, Nat.reduceMul, Nat.reduceSub, Nat.reduceLeDiff, Int.reduceNeg, Int.reduceLT, Int.reduceLE, Int.reduceEq, Int.reduceAdd, Int.reduceToNat, e])
    refine rPutU_spec hn ?_
    ((try first | refine walk_aw env_ok (none) ?_ | refine walk_aw envR_ok (none) ?_); try simp -implicitDefEqProofs (maxSteps := 1000000) only [go_sem, ↓reduceIte, reduceCtorEq, Nat.reduceLT, Nat.reduceEqDiff, Nat.reduceBEq, Nat.reduceAdd, Nat.reduceMul, Nat.reduceSub, Nat.reduceLeDiff, Int.reduceNeg, Int.reduceLT, Int.reduceLE, Int.reduceEq, Int.reduceAdd, Int.reduceToNat])
    exact .inl h
  · rw [if_neg e] at h
    ((try first | refine walk_aw env_ok (none) ?_ | refine walk_aw envR_ok (none) ?_); try simp -implicitDefEqProofs (maxSteps := 1000000) only [go_sem, ↓reduceIte, reduceCtorEq, Nat.reduceLT, Nat.reduceEqDiff, Nat.reduceBEq, Nat.reduceAdd, Nat.reduceMul, Nat.reduceSub, Nat.reduceLeDiff, Int.reduceNeg, Int.reduceLT, Int.reduceLE, Int.reduceEq, Int.reduceAdd, Int.reduceToNat, e])
    refine rSize_spec ?_
    ((try first | refine walk_aw env_ok (none) ?_ | refine walk_aw envR_ok (none) ?_); try simp -implicitDefEqProofs (maxSteps := 1000000) only [go_sem, ↓reduceIte, reduceCtorEq, Nat.reduceLT, Nat.reduceEqDiff, Nat.reduceBEq, Nat.reduceAdd, Nat.reduceMul, Nat.reduceSub, Nat.reduceLeDiff, Int.reduceNeg, Int.reduceLT, Int.reduceLE, Int.reduceEq, Int.reduceAdd, Int.reduceToNat])
    refine rcPut_spec hn ?_
    ((try first | refine walk_aw env_ok (none) ?_ | refine walk_aw envR_ok (none) ?_); try simp -implicitDefEqProofs (maxSteps := 1000000) only [go_sem, ↓reduceIte, reduceCtorEq, Nat.reduceLT, Nat.reduceEqDiff, Nat.reduceBEq, Nat.reduceAdd, Nat.reduceMul, Nat.reduceSub, Nat.reduceLeDiff, Int.reduceNeg, Int.reduceLT, Int.reduceLE, Int.reduceEq, Int.reduceAdd, Int.reduceToNat])
    exact .inl h

theorem rPut_spec {r : RV} {w : Bool} (hr : r.In) (hrb : r.b.length < 70368744177000)
    (h0 : rawRight r w = false → Q (.tup [.sl [] none (), .int .i64 2]) H) (h : rawRight r w = true → Q (.tup [.sl (bA (rawPut r w)) none (), .int .i64 0]) H) :
    AC Tryd.prog 17 [.agg r.cells, .bool w] H Q := by
  obtain ⟨q1, q2, q3, q4, q5⟩ := kd_forms (f := r.form)
  refine AC.strip (E := env Tryd.prog 0 (fun _ => .copy) (fun _ => false)) env_ok ?_
  refine AC.enter (E := env Tryd.prog 61 (fun _ => .copy) (fun _ => false)) env_ok Tryd.func17 rfl rfl rfl (by simp only [List.length_cons, List.length_nil]; exact of_decide_eq_true rfl) ?_
  ((try first | refine walk_aw env_ok (none) ?_ | refine walk_aw envR_ok (none) ?_); try simp -implicitDefEqProofs (maxSteps := 1000000) only [go_sem, ↓reduceIte, reduceCtorEq, Nat.reduceLT, Nat.reduceEqDiff, Nat.reduceBEq, Nat.reduceAdd, Nat.reduceMul, Nat.reduceSub, Nat.reduceLeDiff, Int.reduceNeg, Int.reduceLT, Int.reduceLE, Int.reduceEq, Int.reduceAdd, Int.reduceToNat])
  refine rRightV_spec hr ?_
  cases hR : rawRight r w with
  | false =>
    ((try first | refine walk_aw env_ok (none) ?_ | refine walk_aw envR_ok (none) ?_); try simp -implicitDefEqProofs (maxSteps := 1000000) only [go_sem, ↓reduceIte, reduceCtorEq, Nat.reduceLT, Nat.reduceEqDiff, Nat.reduceBEq, Nat.reduceAdd, Nat.reduceMul, Nat.reduceSub, Nat.reduceLeDiff, Int.reduceNeg, Int.reduceLT, Int.reduceLE, Int.reduceEq, Int.reduceAdd, Int.reduceToNat])
    exact .inr (h0 hR)
  | true =>
    have hq := h hR
    have k0 : ¬ kd r.form = 0 := by
      intro c; rw [rawRight, if_pos (.inl c)] at hR; cases hR
    rw [rawPut] at hq
    ((try first | refine walk_aw env_ok (none) ?_ | refine walk_aw envR_ok (none) ?_); try simp -implicitDefEqProofs (maxSteps := 1000000) only [go_sem, ↓reduceIte, reduceCtorEq, Nat.reduceLT, Nat.reduceEqDiff, Nat.reduceBEq, Nat.reduceAdd, Nat.reduceMul, Nat.reduceSub, Nat.reduceLeDiff, Int.reduceNeg, Int.reduceLT, Int.reduceLE, Int.reduceEq, Int.reduceAdd, Int.reduceToNat])
    refine rKind_spec ?_
    by_cases e1 : r.form = 25
    · rw [if_neg (by omega), if_neg (by omega), if_neg (by omega), if_neg (by omega), if_neg (by omega)] at hq
      ((try first | refine walk_aw env_ok (none) ?_ | refine walk_aw envR_ok (none) ?_); try simp -implicitDefEqProofs (maxSteps := 1000000) only [go_sem, ↓reduceIte, reduceCtorEq, Nat.reduceLT, Nat.reduceEqDiff, Nat.reduceBEq, Nat.reduceAdd, Nat.reduceMul, Nat.reduceSub, Nat.reduceLeDiff, Int.reduceNeg, Int.reduceLT, Int.reduceLE, Int.reduceEq, Int.reduceAdd, Int.reduceToNat, e1])
      exact .inr hq
    by_cases e2 : r.form = 33
    · rw [if_neg (by omega), if_neg (by omega), if_neg (by omega), if_neg (by omega), if_neg (by omega)] at hq
      ((try first | refine walk_aw env_ok (none) ?_ | refine walk_aw envR_ok (none) ?_); try simp -implicitDefEqProofs (maxSteps := 1000000) only [go_sem, ↓reduceIte, reduceCtorEq, Nat.reduceLT, Nat.reduceEqDiff, Nat.reduceBEq, Nat.reduceAdd, Nat.reduceMul, Nat.reduceSub, Nat.reduceLeDiff, Int.reduceNeg, Int.reduceLT, Int.reduceLE, Int.reduceEq, Int.reduceAdd, Int.reduceToNat, e1, e2])
      exact .inr hq
    by_cases e3 : r.form = 13
    · rw [if_pos e3] at hq
      ((try first | refine walk_aw env_ok (none) ?_ | refine walk_aw envR_ok (none) ?_); try simp -implicitDefEqProofs (maxSteps := 1000000) only [go_sem, ↓reduceIte, reduceCtorEq, Nat.reduceLT, Nat.reduceEqDiff, Nat.reduceBEq, Nat.reduceAdd, Nat.reduceMul, Nat.reduceSub, Nat.reduceLeDiff, Int.reduceNeg, Int.reduceLT, Int.reduceLE, Int.reduceEq, Int.reduceAdd, Int.reduceToNat, e1, e2, e3])
      refine rPutS_spec hr.s ?_
      ((try first | refine walk_aw env_ok (none) ?_ | refine walk_aw envR_ok (none) ?_); try simp -implicitDefEqProofs (maxSteps := 1000000) only [go_sem, ↓reduceIte, reduceCtorEq, Nat.reduceLT, Nat.reduceEqDiff, Nat.reduceBEq, Nat.reduceAdd, Nat.reduceMul, Nat.reduceSub, Nat.reduceLeDiff, Int.reduceNeg, Int.reduceLT, Int.reduceLE, Int.reduceEq, Int.reduceAdd, Int.reduceToNat])
      exact .inr hq
    rw [if_neg e3] at hq
    by_cases e4 : kd r.form = 5
    · rw [if_pos e4] at hq
      ((try first | refine walk_aw env_ok (none) ?_ | refine walk_aw envR_ok (none) ?_); try simp -implicitDefEqProofs (maxSteps := 1000000) only [go_sem, ↓reduceIte, reduceCtorEq, Nat.reduceLT, Nat.reduceEqDiff, Nat.reduceBEq, Nat.reduceAdd, Nat.reduceMul, Nat.reduceSub, Nat.reduceLeDiff, Int.reduceNeg, Int.reduceLT, Int.reduceLE, Int.reduceEq, Int.reduceAdd, Int.reduceToNat, e1, e2, e3, e4])
      refine rtPut_spec (right_text hR e4) ?_
      ((try first | refine walk_aw env_ok (none) ?_ | refine walk_aw envR_ok (none) ?_); try simp -implicitDefEqProofs (maxSteps := 1000000) only [go_sem, ↓reduceIte, reduceCtorEq, Nat.reduceLT, Nat.reduceEqDiff, Nat.reduceBEq, Nat.reduceAdd, Nat.reduceMul, Nat.reduceSub, Nat.reduceLeDiff, Int.reduceNeg, Int.reduceLT, Int.reduceLE, Int.reduceEq, Int.reduceAdd, Int.reduceToNat])
      exact .inr hq
    rw [if_neg e4] at hq
    have e4' : r.form ≠ 8 := by omega
    by_cases e5 : r.form = 30
    · rw [if_pos e5] at hq
      ((try first | refine walk_aw env_ok (none) ?_ | refine walk_aw envR_ok (none) ?_); try simp -implicitDefEqProofs (maxSteps := 1000000) only [go_sem, ↓reduceIte, reduceCtorEq, Nat.reduceLT, Nat.reduceEqDiff, Nat.reduceBEq, Nat.reduceAdd, Nat.reduceMul, Nat.reduceSub, Nat.reduceLeDiff, Int.reduceNeg, Int.reduceLT, Int.reduceLE, Int.reduceEq, Int.reduceAdd, Int.reduceToNat, e1, e2, e3, e4, e5, show kd 30 = 9 from rfl])
      exact .inr hq
    rw [if_neg e5] at hq
    have lw : IntKind.u64.wrap (r.b.length : Int) = (r.b.length : Int) := by have := hr.b; exact IntWalk.u64_in _ (by omega)
    by_cases e6 : kd r.form = 9 ∨ kd r.form = 10
    · rw [if_pos e6] at hq
      have hnl := numB_len (n := r.b.length) (by omega) (szf r.form) w
      have f1 : (numB r.b.length (szf r.form) w).length + r.b.length ≤ 140737488355328 := by omega
      have e7 : kd r.form = 9 ∨ (¬ kd r.form = 9 ∧ kd r.form = 10) := by omega
      rcases e7 with e7 | ⟨e7, e8⟩
      · ((try first | refine walk_aw env_ok (none) ?_ | refine walk_aw envR_ok (none) ?_); try simp -implicitDefEqProofs (maxSteps := 1000000) only [go_sem, ↓reduceIte, reduceCtorEq, Nat.reduceLT, Nat.reduceEqDiff, Nat.reduceBEq, Nat.reduceAdd, Nat.reduceMul, Nat.reduceSub, Nat.reduceLeDiff, Int.reduceNeg, Int.reduceLT, Int.reduceLE, Int.reduceEq, Int.reduceAdd, Int.reduceToNat, e1, e2, e3, e4, e5, e7])
        refine AW.chain env_ok [0, 1, 3, 7, 0, 16, 0, 127, 0, 256, 1023, 2047, 4095] [0, 1, 2, 3, 4, 5, 6, 8, 9] [(7, [8, 9], []), (10, [], []), (11, [], []), (12, [], [])] mixed (by decide) ?_
        simp -implicitDefEqProofs (maxSteps := 1000000) (disch := omega) only [go_sem, ↓reduceIte, reduceCtorEq, Nat.reduceLT, Nat.reduceEqDiff, Nat.reduceBEq, Nat.reduceAdd, Nat.reduceMul, Nat.reduceSub, Nat.reduceLeDiff, Int.reduceNeg, Int.reduceLT, Int.reduceLE, Int.reduceEq, Int.reduceAdd, Int.reduceToNat, IntWalk.i64_in, IntWalk.u64_in, IntWalk.u8_in, if_pos, if_neg, Bool.and_eq_true, decide_eq_true_eq, lw]
        refine rput_spec (by have := hr.b; omega) k0 e1 e2 e3 e4' e5 ?_
        ((try first | refine walk_aw env_ok (none) ?_ | refine walk_aw envR_ok (none) ?_); try simp -implicitDefEqProofs (maxSteps := 1000000) only [go_sem, ↓reduceIte, reduceCtorEq, Nat.reduceLT, Nat.reduceEqDiff, Nat.reduceBEq, Nat.reduceAdd, Nat.reduceMul, Nat.reduceSub, Nat.reduceLeDiff, Int.reduceNeg, Int.reduceLT, Int.reduceLE, Int.reduceEq, Int.reduceAdd, Int.reduceToNat, lw, f1, Nat.zero_le])
        exact .inr hq
      · ((try first | refine walk_aw env_ok (none) ?_ | refine walk_aw envR_ok (none) ?_); try simp -implicitDefEqProofs (maxSteps := 1000000) only [go_sem, ↓reduceIte, reduceCtorEq, Nat.reduceLT, Nat.reduceEqDiff, Nat.reduceBEq, Nat.reduceAdd, Nat.reduceMul, Nat.reduceSub, Nat.reduceLeDiff, Int.reduceNeg, Int.reduceLT, Int.reduceLE, Int.reduceEq, Int.reduceAdd, Int.reduceToNat, e1, e2, e3, e4, e5, e7, e8])
        refine AW.chain env_ok [0, 1, 3, 7, 0, 16, 0, 127, 0, 256, 1023, 2047, 4095] [0, 1, 2, 3, 4, 5, 6, 8, 9] [(7, [8, 9], []), (10, [], []), (11, [], []), (12, [], [])] mixed (by decide) ?_
        simp -implicitDefEqProofs (maxSteps := 1000000) (disch := omega) only [go_sem, ↓reduceIte, reduceCtorEq, Nat.reduceLT, Nat.reduceEqDiff, Nat.reduceBEq, Nat.reduceAdd, Nat.reduceMul, Nat.reduceSub, Nat.reduceLeDiff, Int.reduceNeg, Int.reduceLT, Int.reduceLE, Int.reduceEq, Int.reduceAdd, Int.reduceToNat, IntWalk.i64_in, IntWalk.u64_in, IntWalk.u8_in, if_pos, if_neg, Bool.and_eq_true, decide_eq_true_eq, lw]
        refine rput_spec (by have := hr.b; omega) k0 e1 e2 e3 e4' e5 ?_
        ((try first | refine walk_aw env_ok (none) ?_ | refine walk_aw envR_ok (none) ?_); try simp -implicitDefEqProofs (maxSteps := 1000000) only [go_sem, ↓reduceIte, reduceCtorEq, Nat.reduceLT, Nat.reduceEqDiff, Nat.reduceBEq, Nat.reduceAdd, Nat.reduceMul, Nat.reduceSub, Nat.reduceLeDiff, Int.reduceNeg, Int.reduceLT, Int.reduceLE, Int.reduceEq, Int.reduceAdd, Int.reduceToNat, lw, f1, Nat.zero_le])
        exact .inr hq
    · rw [if_neg e6, if_pos ⟨e2, e1⟩] at hq
      have e7 : ¬ kd r.form = 9 := fun c => e6 (.inl c)
      have e8 : ¬ kd r.form = 10 := fun c => e6 (.inr c)
      ((try first | refine walk_aw env_ok (none) ?_ | refine walk_aw envR_ok (none) ?_); try simp -implicitDefEqProofs (maxSteps := 1000000) only [go_sem, ↓reduceIte, reduceCtorEq, Nat.reduceLT, Nat.reduceEqDiff, Nat.reduceBEq, Nat.reduceAdd, Nat.reduceMul, Nat.reduceSub, Nat.reduceLeDiff, Int.reduceNeg, Int.reduceLT, Int.reduceLE, Int.reduceEq, Int.reduceAdd, Int.reduceToNat, e1, e2, e3, e4, e5, e7, e8])
      refine rput_spec hr.u k0 e1 e2 e3 e4' e5 ?_
      ((try first | refine walk_aw env_ok (none) ?_ | refine walk_aw envR_ok (none) ?_); try simp -implicitDefEqProofs (maxSteps := 1000000) only [go_sem, ↓reduceIte, reduceCtorEq, Nat.reduceLT, Nat.reduceEqDiff, Nat.reduceBEq, Nat.reduceAdd, Nat.reduceMul, Nat.reduceSub, Nat.reduceLeDiff, Int.reduceNeg, Int.reduceLT, Int.reduceLE, Int.reduceEq, Int.reduceAdd, Int.reduceToNat])
      exact .inr hq
end
end Go.Ab
end

section
/- The law RawPuts answers true. -/
namespace Go.Ab
open V Go.Proofs
set_option maxHeartbeats 8000000
set_option maxRecDepth 10000
set_option linter.unusedSimpArgs false
set_option linter.unusedVariables false

theorem str_cat (a b : List UInt8) : (⟨a.toArray⟩ : ByteArray) ++ ⟨b.toArray⟩ = ⟨(a ++ b).toArray⟩ := by
  apply ByteArray.ext
  simp [ByteArray.data_append]
theorem str_size (a : List UInt8) : (⟨a.toArray⟩ : ByteArray).size = a.length := by simp [ByteArray.size]
section
variable {H : Heap} {Q : A → Heap → Prop}
theorem RawPuts_spec {b : List UInt8} {x z : RV} {w : Bool} (hu : x.u < 18446744073709551616) (hs : -9223372036854775808 ≤ x.s ∧ x.s < 9223372036854775808) (h : Q (.bool true) H) :
    AC Tryd.prog 4 [.sl (bA b) none (), .agg x.cells, .agg z.cells, .bool w] H Q := by
  refine AC.enter (E := env Tryd.prog 100 (fun _ => .copy) (fun t => t == 41 || t == 47)) env_ok Tryd.func4 rfl rfl rfl (by simp only [List.length_cons, List.length_nil]; exact of_decide_eq_true rfl) ?_
  ((try first | refine walk_aw env_ok (none) ?_ | refine walk_aw envR_ok (none) ?_); try simp -implicitDefEqProofs (maxSteps := 1000000) only [go_sem, ↓reduceIte, reduceCtorEq, Nat.reduceLT, Nat.reduceEqDiff, Nat.reduceBEq, Nat.reduceAdd, Nat.reduceMul, Nat.reduceSub, Nat.reduceLeDiff, Int.reduceNeg, Int.reduceLT, Int.reduceLE, Int.reduceEq, Int.reduceAdd, Int.reduceToNat])
  by_cases c1 : (b.length : Int) > 3000
  · ((try first | refine walk_aw env_ok (none) ?_ | refine walk_aw envR_ok (none) ?_); try simp -implicitDefEqProofs (maxSteps := 1000000) only [go_sem, ↓reduceIte, reduceCtorEq, Nat.reduceLT, Nat.reduceEqDiff, Nat.reduceBEq, Nat.reduceAdd, Nat.reduceMul, Nat.reduceSub, Nat.reduceLeDiff, Int.reduceNeg, Int.reduceLT, Int.reduceLE, Int.reduceEq, Int.reduceAdd, Int.reduceToNat, c1])
    refine works14_spec ?_
    ((try first | refine walk_aw env_ok (none) ?_ | refine walk_aw envR_ok (none) ?_); try simp -implicitDefEqProofs (maxSteps := 1000000) only [go_sem, ↓reduceIte, reduceCtorEq, Nat.reduceLT, Nat.reduceEqDiff, Nat.reduceBEq, Nat.reduceAdd, Nat.reduceMul, Nat.reduceSub, Nat.reduceLeDiff, Int.reduceNeg, Int.reduceLT, Int.reduceLE, Int.reduceEq, Int.reduceAdd, Int.reduceToNat])
    exact .inr h
  by_cases c2 : (x.b.length : Int) > 3000
  · ((try first | refine walk_aw env_ok (none) ?_ | refine walk_aw envR_ok (none) ?_); try simp -implicitDefEqProofs (maxSteps := 1000000) only [go_sem, ↓reduceIte, reduceCtorEq, Nat.reduceLT, Nat.reduceEqDiff, Nat.reduceBEq, Nat.reduceAdd, Nat.reduceMul, Nat.reduceSub, Nat.reduceLeDiff, Int.reduceNeg, Int.reduceLT, Int.reduceLE, Int.reduceEq, Int.reduceAdd, Int.reduceToNat, c1, c2])
    refine works14_spec ?_
    ((try first | refine walk_aw env_ok (none) ?_ | refine walk_aw envR_ok (none) ?_); try simp -implicitDefEqProofs (maxSteps := 1000000) only [go_sem, ↓reduceIte, reduceCtorEq, Nat.reduceLT, Nat.reduceEqDiff, Nat.reduceBEq, Nat.reduceAdd, Nat.reduceMul, Nat.reduceSub, Nat.reduceLeDiff, Int.reduceNeg, Int.reduceLT, Int.reduceLE, Int.reduceEq, Int.reduceAdd, Int.reduceToNat])
    exact .inr h
  by_cases c3 : (x.t.size : Int) > 3000
  · ((try first | refine walk_aw env_ok (none) ?_ | refine walk_aw envR_ok (none) ?_); try simp -implicitDefEqProofs (maxSteps := 1000000) only [go_sem, ↓reduceIte, reduceCtorEq, Nat.reduceLT, Nat.reduceEqDiff, Nat.reduceBEq, Nat.reduceAdd, Nat.reduceMul, Nat.reduceSub, Nat.reduceLeDiff, Int.reduceNeg, Int.reduceLT, Int.reduceLE, Int.reduceEq, Int.reduceAdd, Int.reduceToNat, c1, c2, c3])
    refine works14_spec ?_
    ((try first | refine walk_aw env_ok (none) ?_ | refine walk_aw envR_ok (none) ?_); try simp -implicitDefEqProofs (maxSteps := 1000000) only [go_sem, ↓reduceIte, reduceCtorEq, Nat.reduceLT, Nat.reduceEqDiff, Nat.reduceBEq, Nat.reduceAdd, Nat.reduceMul, Nat.reduceSub, Nat.reduceLeDiff, Int.reduceNeg, Int.reduceLT, Int.reduceLE, Int.reduceEq, Int.reduceAdd, Int.reduceToNat])
    exact .inr h
  by_cases c4 : (z.b.length : Int) > 3000
  · ((try first | refine walk_aw env_ok (none) ?_ | refine walk_aw envR_ok (none) ?_); try simp -implicitDefEqProofs (maxSteps := 1000000) only [go_sem, ↓reduceIte, reduceCtorEq, Nat.reduceLT, Nat.reduceEqDiff, Nat.reduceBEq, Nat.reduceAdd, Nat.reduceMul, Nat.reduceSub, Nat.reduceLeDiff, Int.reduceNeg, Int.reduceLT, Int.reduceLE, Int.reduceEq, Int.reduceAdd, Int.reduceToNat, c1, c2, c3, c4])
    refine works14_spec ?_
    ((try first | refine walk_aw env_ok (none) ?_ | refine walk_aw envR_ok (none) ?_); try simp -implicitDefEqProofs (maxSteps := 1000000) only [go_sem, ↓reduceIte, reduceCtorEq, Nat.reduceLT, Nat.reduceEqDiff, Nat.reduceBEq, Nat.reduceAdd, Nat.reduceMul, Nat.reduceSub, Nat.reduceLeDiff, Int.reduceNeg, Int.reduceLT, Int.reduceLE, Int.reduceEq, Int.reduceAdd, Int.reduceToNat])
    exact .inr h
  have hx : x.In := ⟨hu, hs, by omega, by omega⟩
  have hcap : b.length ≤ 140737488355328 := by omega
  ((try first | refine walk_aw env_ok (none) ?_ | refine walk_aw envR_ok (none) ?_); try simp -implicitDefEqProofs (maxSteps := 1000000) only [go_sem, ↓reduceIte, reduceCtorEq, Nat.reduceLT, Nat.reduceEqDiff, Nat.reduceBEq, Nat.reduceAdd, Nat.reduceMul, Nat.reduceSub, Nat.reduceLeDiff, Int.reduceNeg, Int.reduceLT, Int.reduceLE, Int.reduceEq, Int.reduceAdd, Int.reduceToNat, c1, c2, c3, c4])
  refine AW.chain env_ok [0, 0, 3, 0, 0, 31, 63, 127, 127, 255, 1023] [0, 1, 3, 4] [(2, [3, 4], []), (5, [], [6, 7, 8]), (9, [8], []), (10, [], [])] mixed (by decide) ?_
  ((try first | refine walk_aw env_ok (none) ?_ | refine walk_aw envR_ok (none) ?_); try simp -implicitDefEqProofs (maxSteps := 1000000) only [go_sem, ↓reduceIte, reduceCtorEq, Nat.reduceLT, Nat.reduceEqDiff, Nat.reduceBEq, Nat.reduceAdd, Nat.reduceMul, Nat.reduceSub, Nat.reduceLeDiff, Int.reduceNeg, Int.reduceLT, Int.reduceLE, Int.reduceEq, Int.reduceAdd, Int.reduceToNat, hcap, Nat.zero_le])
  have rest : True := trivial
  cases hR : rawRight x w with
  | false =>
    refine Put_spec (by omega) (Nat.zero_le _) hx (by omega) (fun _ => ?_) (fun hc => absurd hc (by rw [hR]; decide))
    ((try first | refine walk_aw env_ok (none) ?_ | refine walk_aw envR_ok (none) ?_); try simp -implicitDefEqProofs (maxSteps := 1000000) only [go_sem, ↓reduceIte, reduceCtorEq, Nat.reduceLT, Nat.reduceEqDiff, Nat.reduceBEq, Nat.reduceAdd, Nat.reduceMul, Nat.reduceSub, Nat.reduceLeDiff, Int.reduceNeg, Int.reduceLT, Int.reduceLE, Int.reduceEq, Int.reduceAdd, Int.reduceToNat])
    refine rPut_spec hx (by omega) (fun _ => ?_) (fun hc => absurd hc (by rw [hR]; decide))
    ((try first | refine walk_aw env_ok (none) ?_ | refine walk_aw envR_ok (none) ?_); try simp -implicitDefEqProofs (maxSteps := 1000000) only [go_sem, ↓reduceIte, reduceCtorEq, Nat.reduceLT, Nat.reduceEqDiff, Nat.reduceBEq, Nat.reduceAdd, Nat.reduceMul, Nat.reduceSub, Nat.reduceLeDiff, Int.reduceNeg, Int.reduceLT, Int.reduceLE, Int.reduceEq, Int.reduceAdd, Int.reduceToNat])
    refine AW.chain env_ok [0, 0, 3, 0, 0, 31, 63, 127, 255, 255, 1023, 255, 255, 8191, 16383, 32767, 65535, 131071, 131071, 524287, 1048575, 2097151, 4194303, 8388607, 16777215] [0, 1, 2, 3, 4, 5, 6, 7, 8, 9, 10, 11, 12, 13, 14, 15, 16, 17, 18, 19, 20, 21, 22, 23] [(24, [], [])] mixed (by decide) ?_
    ((try first | refine walk_aw env_ok (none) ?_ | refine walk_aw envR_ok (none) ?_); try simp -implicitDefEqProofs (maxSteps := 1000000) only [go_sem, ↓reduceIte, reduceCtorEq, Nat.reduceLT, Nat.reduceEqDiff, Nat.reduceBEq, Nat.reduceAdd, Nat.reduceMul, Nat.reduceSub, Nat.reduceLeDiff, Int.reduceNeg, Int.reduceLT, Int.reduceLE, Int.reduceEq, Int.reduceAdd, Int.reduceToNat])
    refine QC.mk (Right_spec hx ⟨rfl, rfl⟩) ?_
    ((try first | refine walk_aw env_ok (none) ?_ | refine walk_aw envR_ok (none) ?_); try simp -implicitDefEqProofs (maxSteps := 1000000) only [go_sem, ↓reduceIte, reduceCtorEq, Nat.reduceLT, Nat.reduceEqDiff, Nat.reduceBEq, Nat.reduceAdd, Nat.reduceMul, Nat.reduceSub, Nat.reduceLeDiff, Int.reduceNeg, Int.reduceLT, Int.reduceLE, Int.reduceEq, Int.reduceAdd, Int.reduceToNat])
    refine QC.mk (rRightV_spec hx ⟨rfl, rfl⟩) ?_
    ((try first | refine walk_aw env_ok (none) ?_ | refine walk_aw envR_ok (none) ?_); try simp -implicitDefEqProofs (maxSteps := 1000000) only [go_sem, ↓reduceIte, reduceCtorEq, Nat.reduceLT, Nat.reduceEqDiff, Nat.reduceBEq, Nat.reduceAdd, Nat.reduceMul, Nat.reduceSub, Nat.reduceLeDiff, Int.reduceNeg, Int.reduceLT, Int.reduceLE, Int.reduceEq, Int.reduceAdd, Int.reduceToNat])
    refine QC.mk (Same_spec ⟨rfl, rfl⟩) ?_
    ((try first | refine walk_aw env_ok (none) ?_ | refine walk_aw envR_ok (none) ?_); try simp -implicitDefEqProofs (maxSteps := 1000000) only [go_sem, ↓reduceIte, reduceCtorEq, Nat.reduceLT, Nat.reduceEqDiff, Nat.reduceBEq, Nat.reduceAdd, Nat.reduceMul, Nat.reduceSub, Nat.reduceLeDiff, Int.reduceNeg, Int.reduceLT, Int.reduceLE, Int.reduceEq, Int.reduceAdd, Int.reduceToNat])
    refine QC.mk (rSameV_spec ⟨rfl, rfl⟩) ?_
    ((try first | refine walk_aw env_ok (none) ?_ | refine walk_aw envR_ok (none) ?_); try simp -implicitDefEqProofs (maxSteps := 1000000) only [go_sem, ↓reduceIte, reduceCtorEq, Nat.reduceLT, Nat.reduceEqDiff, Nat.reduceBEq, Nat.reduceAdd, Nat.reduceMul, Nat.reduceSub, Nat.reduceLeDiff, Int.reduceNeg, Int.reduceLT, Int.reduceLE, Int.reduceEq, Int.reduceAdd, Int.reduceToNat])
    refine QC.mk (Same_spec ⟨rfl, rfl⟩) ?_
    rw [rawSame_self]
    ((try first | refine walk_aw env_ok (none) ?_ | refine walk_aw envR_ok (none) ?_); try simp -implicitDefEqProofs (maxSteps := 1000000) only [go_sem, ↓reduceIte, reduceCtorEq, Nat.reduceLT, Nat.reduceEqDiff, Nat.reduceBEq, Nat.reduceAdd, Nat.reduceMul, Nat.reduceSub, Nat.reduceLeDiff, Int.reduceNeg, Int.reduceLT, Int.reduceLE, Int.reduceEq, Int.reduceAdd, Int.reduceToNat])
    refine QC.mk (works14_spec ⟨rfl, rfl⟩) ?_
    ((try first | refine walk_aw env_ok (none) ?_ | refine walk_aw envR_ok (none) ?_); try simp -implicitDefEqProofs (maxSteps := 1000000) only [go_sem, ↓reduceIte, reduceCtorEq, Nat.reduceLT, Nat.reduceEqDiff, Nat.reduceBEq, Nat.reduceAdd, Nat.reduceMul, Nat.reduceSub, Nat.reduceLeDiff, Int.reduceNeg, Int.reduceLT, Int.reduceLE, Int.reduceEq, Int.reduceAdd, Int.reduceToNat])
    exact .inr h
  | true =>
    refine Put_spec (by omega) (Nat.zero_le _) hx (by omega) (fun hc => absurd hc (by rw [hR]; decide)) (fun _ => ?_)
    ((try first | refine walk_aw env_ok (none) ?_ | refine walk_aw envR_ok (none) ?_); try simp -implicitDefEqProofs (maxSteps := 1000000) only [go_sem, ↓reduceIte, reduceCtorEq, Nat.reduceLT, Nat.reduceEqDiff, Nat.reduceBEq, Nat.reduceAdd, Nat.reduceMul, Nat.reduceSub, Nat.reduceLeDiff, Int.reduceNeg, Int.reduceLT, Int.reduceLE, Int.reduceEq, Int.reduceAdd, Int.reduceToNat])
    refine rPut_spec hx (by omega) (fun hc => absurd hc (by rw [hR]; decide)) (fun _ => ?_)
    have hpl : (rawPut x w).length ≤ 4000 := by
      unfold rawPut
      split
      · have := putS_len hs; omega
      · split
        · rw [List.length_append, txt_len]; simp only [List.length_cons, List.length_nil]; omega
        · split
          · omega
          · split
            · have := numB_len (n := x.b.length) (by omega) (szf x.form) w; rw [List.length_append]; omega
            · split
              · have := numB_len hu (szf x.form) w; omega
              · simp
    have hsz : ¬ (((⟨b.toArray⟩ : ByteArray).size + (⟨(rawPut x w).toArray⟩ : ByteArray).size : Nat) : Int) > IntKind.i64.max := by
      rw [str_size, str_size, show IntKind.i64.max = 9223372036854775807 from rfl]; omega
    have hsz2 : ¬ ((b.toArray.size + (rawPut x w).toArray.size : Nat) : Int) > IntKind.i64.max := by
      rw [List.size_toArray, List.size_toArray, show IntKind.i64.max = 9223372036854775807 from rfl]; omega
    ((try first | refine walk_aw env_ok (none) ?_ | refine walk_aw envR_ok (none) ?_); try simp -implicitDefEqProofs (maxSteps := 1000000) only [go_sem, ↓reduceIte, reduceCtorEq, Nat.reduceLT, Nat.reduceEqDiff, Nat.reduceBEq, Nat.reduceAdd, Nat.reduceMul, Nat.reduceSub, Nat.reduceLeDiff, Int.reduceNeg, Int.reduceLT, Int.reduceLE, Int.reduceEq, Int.reduceAdd, Int.reduceToNat, hsz, hsz2, str_cat])
    refine AW.chain env_ok [0, 0, 3, 0, 0, 31, 63, 127, 255, 255, 1023, 255, 255, 8191, 16383, 32767, 65535, 131071, 131071, 524287, 1048575, 2097151, 4194303, 8388607, 16777215] [0, 1, 2, 3, 4, 5, 6, 7, 8, 9, 10, 11, 12, 13, 14, 15, 16, 17, 18, 19, 20, 21, 22, 23] [(24, [], [])] mixed (by decide) ?_
    ((try first | refine walk_aw env_ok (none) ?_ | refine walk_aw envR_ok (none) ?_); try simp -implicitDefEqProofs (maxSteps := 1000000) only [go_sem, ↓reduceIte, reduceCtorEq, Nat.reduceLT, Nat.reduceEqDiff, Nat.reduceBEq, Nat.reduceAdd, Nat.reduceMul, Nat.reduceSub, Nat.reduceLeDiff, Int.reduceNeg, Int.reduceLT, Int.reduceLE, Int.reduceEq, Int.reduceAdd, Int.reduceToNat])
    refine QC.mk (Right_spec hx ⟨rfl, rfl⟩) ?_
    ((try first | refine walk_aw env_ok (none) ?_ | refine walk_aw envR_ok (none) ?_); try simp -implicitDefEqProofs (maxSteps := 1000000) only [go_sem, ↓reduceIte, reduceCtorEq, Nat.reduceLT, Nat.reduceEqDiff, Nat.reduceBEq, Nat.reduceAdd, Nat.reduceMul, Nat.reduceSub, Nat.reduceLeDiff, Int.reduceNeg, Int.reduceLT, Int.reduceLE, Int.reduceEq, Int.reduceAdd, Int.reduceToNat])
    refine QC.mk (rRightV_spec hx ⟨rfl, rfl⟩) ?_
    ((try first | refine walk_aw env_ok (none) ?_ | refine walk_aw envR_ok (none) ?_); try simp -implicitDefEqProofs (maxSteps := 1000000) only [go_sem, ↓reduceIte, reduceCtorEq, Nat.reduceLT, Nat.reduceEqDiff, Nat.reduceBEq, Nat.reduceAdd, Nat.reduceMul, Nat.reduceSub, Nat.reduceLeDiff, Int.reduceNeg, Int.reduceLT, Int.reduceLE, Int.reduceEq, Int.reduceAdd, Int.reduceToNat])
    refine QC.mk (Same_spec ⟨rfl, rfl⟩) ?_
    ((try first | refine walk_aw env_ok (none) ?_ | refine walk_aw envR_ok (none) ?_); try simp -implicitDefEqProofs (maxSteps := 1000000) only [go_sem, ↓reduceIte, reduceCtorEq, Nat.reduceLT, Nat.reduceEqDiff, Nat.reduceBEq, Nat.reduceAdd, Nat.reduceMul, Nat.reduceSub, Nat.reduceLeDiff, Int.reduceNeg, Int.reduceLT, Int.reduceLE, Int.reduceEq, Int.reduceAdd, Int.reduceToNat])
    refine QC.mk (rSameV_spec ⟨rfl, rfl⟩) ?_
    ((try first | refine walk_aw env_ok (none) ?_ | refine walk_aw envR_ok (none) ?_); try simp -implicitDefEqProofs (maxSteps := 1000000) only [go_sem, ↓reduceIte, reduceCtorEq, Nat.reduceLT, Nat.reduceEqDiff, Nat.reduceBEq, Nat.reduceAdd, Nat.reduceMul, Nat.reduceSub, Nat.reduceLeDiff, Int.reduceNeg, Int.reduceLT, Int.reduceLE, Int.reduceEq, Int.reduceAdd, Int.reduceToNat])
    refine QC.mk (Same_spec ⟨rfl, rfl⟩) ?_
    rw [rawSame_self]
    ((try first | refine walk_aw env_ok (none) ?_ | refine walk_aw envR_ok (none) ?_); try simp -implicitDefEqProofs (maxSteps := 1000000) only [go_sem, ↓reduceIte, reduceCtorEq, Nat.reduceLT, Nat.reduceEqDiff, Nat.reduceBEq, Nat.reduceAdd, Nat.reduceMul, Nat.reduceSub, Nat.reduceLeDiff, Int.reduceNeg, Int.reduceLT, Int.reduceLE, Int.reduceEq, Int.reduceAdd, Int.reduceToNat])
    refine QC.mk (works14_spec ⟨rfl, rfl⟩) ?_
    ((try first | refine walk_aw env_ok (none) ?_ | refine walk_aw envR_ok (none) ?_); try simp -implicitDefEqProofs (maxSteps := 1000000) only [go_sem, ↓reduceIte, reduceCtorEq, Nat.reduceLT, Nat.reduceEqDiff, Nat.reduceBEq, Nat.reduceAdd, Nat.reduceMul, Nat.reduceSub, Nat.reduceLeDiff, Int.reduceNeg, Int.reduceLT, Int.reduceLE, Int.reduceEq, Int.reduceAdd, Int.reduceToNat])
    exact .inr h
end
end Go.Ab
end

section
/- What the laws' arguments are; the tables. -/
namespace Go.Ab
open V Go.Proofs Go.Proofs.YtbdhocfaebchfaaDoor
set_option maxHeartbeats 4000000
set_option maxRecDepth 10000
set_option linter.unusedVariables false

theorem U2 : Tryd.prog.underlying 2 = some (.int .i64) := by kernel_rfl
theorem U3 : Tryd.prog.underlying 3 = some (.int .i64) := by kernel_rfl
theorem U4 : Tryd.prog.underlying 4 = some .bool := by kernel_rfl
theorem U5 : Tryd.prog.underlying 5 = some (.int .u8) := by kernel_rfl
theorem U9 : Tryd.prog.underlying 9 = some .string := by kernel_rfl
theorem U31 : Tryd.prog.underlying 31 = some (.int .u64) := by kernel_rfl
theorem U22 : Tryd.prog.underlying 22 = some (.slice 5) := by kernel_rfl
theorem S24 : fieldTypes Tryd.prog 24 = some [3, 3, 2] := by kernel_rfl
theorem S33 : fieldTypes Tryd.prog 33 = some [3, 31, 2, 22, 9] := by kernel_rfl
theorem G24 : aggT Tryd.prog 24 = true := by kernel_rfl
theorem G33 : aggT Tryd.prog 33 = true := by kernel_rfl
theorem G4 : aggT Tryd.prog 4 = false := by kernel_rfl
theorem G5 : aggT Tryd.prog 5 = false := by kernel_rfl
theorem G22 : aggT Tryd.prog 22 = false := by kernel_rfl

section
variable {n : Nat} {x : A} {c0 : List A}
theorem rc_bytes (h : FitsC Tryd.prog (n + 2) 22 c0) : ∃ l : List UInt8, c0 = [.sl (bA l) none ()] ∧ l.length ≤ maxLen := by
  obtain ⟨xs, rfl, hl, hx⟩ := fits_slice U22 h
  obtain ⟨l, rfl⟩ := map_of (f := byteA) (l := xs) fun x hm => by
    obtain ⟨i, hi, h1, h2⟩ := fits_int U5 (fits_one G5 (hx x hm))
    refine ⟨UInt8.ofNat i.toNat, ?_⟩
    rw [one_inj hi, byteA]
    have h3 : (0 : Int) ≤ i := h1
    have h4 : i ≤ 255 := h2
    rw [show ((UInt8.ofNat i.toNat).toNat : Int) = i by simp; omega]
  exact ⟨l, rfl, by simpa using hl⟩
theorem rd_bytes (h : FitsV Tryd.prog (n + 2) 22 x) : ∃ l : List UInt8, x = .sl (bA l) none () ∧ l.length ≤ maxLen := by
  obtain ⟨l, h1, h2⟩ := rc_bytes (fits_one G22 h)
  exact ⟨l, one_inj h1, h2⟩
theorem rd_bool (h : FitsV Tryd.prog (n + 1) 4 x) : ∃ b, x = .bool b := by
  obtain ⟨b, h1⟩ := fits_bool U4 (fits_one G4 h)
  exact ⟨b, one_inj h1⟩
theorem rd_spec (h : FitsV Tryd.prog (n + 2) 24 x) : ∃ a f i : Int, x = .agg [.int .i64 a, .int .i64 f, .int .i64 i] := by
  obtain ⟨cs, rfl, hc⟩ := fits_agg G24 h
  obtain ⟨ps, rfl, hl, hp⟩ := fits_struct S24 hc
  match ps, hl with
  | [p0, p1, p2], _ =>
    obtain ⟨a, rfl, _⟩ := fits_int U3 (hp 0 3 p0 rfl rfl)
    obtain ⟨f, rfl, _⟩ := fits_int U3 (hp 1 3 p1 rfl rfl)
    obtain ⟨i, rfl, _⟩ := fits_int U2 (hp 2 2 p2 rfl rfl)
    exact ⟨a, f, i, rfl⟩
theorem rd_raw (h : FitsV Tryd.prog (n + 4) 33 x) : ∃ r : RV, x = .agg r.cells ∧ r.u < 18446744073709551616 ∧ (-9223372036854775808 ≤ r.s ∧ r.s < 9223372036854775808) ∧ r.b.length ≤ maxLen ∧ r.t.size ≤ maxLen := by
  obtain ⟨cs, rfl, hc⟩ := fits_agg G33 h
  obtain ⟨ps, rfl, hl, hp⟩ := fits_struct S33 hc
  match ps, hl with
  | [p0, p1, p2, p3, p4], _ =>
    obtain ⟨f, rfl, _⟩ := fits_int U3 (hp 0 3 p0 rfl rfl)
    obtain ⟨u, rfl, u1, u2⟩ := fits_int U31 (hp 1 31 p1 rfl rfl)
    obtain ⟨s, rfl, s1, s2⟩ := fits_int U2 (hp 2 2 p2 rfl rfl)
    obtain ⟨l, rfl, hl⟩ := rc_bytes (hp 3 22 p3 rfl rfl)
    obtain ⟨t, rfl, ht⟩ := fits_str U9 (hp 4 9 p4 rfl rfl)
    have u3 : (0 : Int) ≤ u := u1
    have u4 : u ≤ 18446744073709551615 := u2
    have s3 : (-9223372036854775808 : Int) ≤ s := s1
    have s4 : s ≤ 9223372036854775807 := s2
    refine ⟨⟨f, u.toNat, s, l, t⟩, ?_, by simp only; omega, by simp only; omega, hl, ht⟩
    show _ = V.agg [_, V.int .u64 ((u.toNat : Nat) : Int), _, _, _]
    rw [show ((u.toNat : Nat) : Int) = u by omega]; rfl
end

/-! the tables -/
theorem gSizes : Tryd.prog.globalNamed "sindri/length.sizes" = some 1 := by kernel_rfl
theorem gForms : Tryd.prog.globalNamed "sindri/raw.forms" = some 0 := by kernel_rfl
theorem tSizes : (Tryd.prog.globals[1]?).map (·.type) = some 99 := by kernel_rfl
theorem tForms : (Tryd.prog.globals[0]?).map (·.type) = some 84 := by kernel_rfl
theorem pSizes : plainT Tryd.prog 3 99 = true := by kernel_rfl
theorem pForms : plainT Tryd.prog 3 84 = true := by kernel_rfl
theorem tabs_laid {W : World} (h : laidMetH Tryd.prog Rows.rawTakesRow.laid W) : TabsAt W := by
  rw [Go.MakeChecks.laidMetH_plain _ _ _ (by kernel_rfl)] at h
  obtain ⟨ps, ⟨g1, t1, cs1, f1, p1, q1, hg1, ht1, hv1, hd1, ⟨g0, t0, cs0, f0, p0, q0, hg0, ht0, hv0, hd0, _, _⟩, _⟩, _, _⟩ := h
  obtain rfl := Option.some.inj (gSizes.symm.trans hg1)
  obtain rfl := Option.some.inj (gForms.symm.trans hg0)
  obtain rfl := Option.some.inj (tSizes.symm.trans ht1)
  obtain rfl := Option.some.inj (tForms.symm.trans ht0)
  have e1 : cs1.toList = tabL1.map leafV := trod_flat 3 99 _ _ _ pSizes hd1
  have e0 : cs0.toList = tabL0.map leafV := trod_flat 3 84 _ _ _ pForms hd0
  intro b cs hb
  have hb' : (if b = 1 then some tabL1 else if b = 0 then some tabL0 else none) = some cs := hb
  split at hb'
  · rename_i c; subst c
    simp only [Option.some.injEq] at hb'; subst hb'
    exact tab_at gSizes hv1 e1
  · split at hb'
    · rename_i c; subst c
      simp only [Option.some.injEq] at hb'; subst hb'
      exact tab_at gForms hv0 e0
    · cases hb'

def withCells (cs : List A) : Obj → Obj
  | .cells _ ty fz => .cells (cs.map leafV).toArray ty fz
  | o => o
/-- A world that holds the tables. -/
noncomputable def laidWorld (os : Os) : World :=
  let w0 : World := World.holding Tryd.prog os ⟨#[], #[], []⟩
  { w0 with heap := (w0.heap.modify 0 (withCells tabL0)).modify 1 (withCells tabL1) }
end Go.Ab
end
