/- Contracts of the functions that the law reaches. -/
import Derived.Test.YtbdhocfaebchfaaDoorRtPartC
import Derived.Test.YtbdhocfaebchfaaDoorRtLAbTree
import Derived.Test.YtbdhocfaebchfaaDoorRtLAbRead
import Derived.Test.YtbdhocfaebchfaaDoorRtLAbLaid
import Derived.Test.YtbdhocfaebchfaaDoorRows
import Derived.MakeChecks
set_option linter.all false
set_option linter.unusedSimpArgs false
set_option linter.unusedVariables false
set_option linter.unnecessarySimpa false
section
/- Package sindriref14: which values may be, and how they are put. -/
namespace Go.Ab
open V Go.Proofs
set_option maxHeartbeats 4000000
set_option maxRecDepth 10000
set_option linter.unusedSimpArgs false
set_option linter.unusedVariables false

def fitsD (n : Nat) (f : Int) (w : Bool) : Bool := decide (szr f w = 0 ∨ szr f w = 8 ∨ n / 256 ^ (szr f w).toNat = 0)
theorem szr_range (f : Int) (w : Bool) : 0 ≤ szr f w ∧ szr f w ≤ 8 := by
  have h : ∀ k : Nat, k < 45 → sizeR.getD k 0 = -2 ∨ (0 ≤ sizeR.getD k 0 ∧ sizeR.getD k 0 ≤ 8) := by decide
  by_cases c : 0 ≤ f ∧ f < 45
  · obtain ⟨k, rfl⟩ : ∃ k : Nat, f = (k : Int) := ⟨f.toNat, by omega⟩
    rw [szr_nat (by omega)]
    rcases h k (by omega) with e | e
    · rw [if_pos e]; cases w <;> simp
    · rw [if_neg (by omega)]; exact e
  · rw [szr, if_neg c]; omega
theorem fits_rel {n : Nat} {f : Int} {w : Bool} (h0 : kd f ≠ 0) (h1 : f ≠ 25) (h2 : f ≠ 33) (h3 : f ≠ 13) (h4 : f ≠ 8) (h5 : f ≠ 30) : fitsD n f w = fitsR n (szf f) w := by
  obtain ⟨k, hk, rfl⟩ := kd_in h0
  rw [kd_nat hk] at h0
  have hr := szr_range (k : Int) w
  rw [fitsD, fitsR, zz]
  rw [szr_nat hk] at hr ⊢
  rw [szf_nat hk]
  rcases size_rel k hk with c | ⟨c1, c2⟩ | ⟨c1, c2, c3⟩
  · exfalso
    rcases c with c | c | c | c
    · omega
    · omega
    · exact h0 c
    · rcases other_rel k hk c with c | c | c <;> omega
  · rw [c2, c1]; simp
  · rw [c2] at hr ⊢
    by_cases c4 : sizeL.getD k 0 = -2
    · rw [if_pos c4] at hr ⊢
      cases w <;> simp
    · rw [if_neg c4] at hr ⊢
      apply decide_eq_decide.2
      constructor
      · rintro (e | e | e)
        · exact absurd e c3
        · right; left; omega
        · right; right; exact e
      · rintro (e | e | e)
        · exact absurd e c1
        · right; left; omega
        · right; right; exact e

theorem bA_one (l : List UInt8) (x : UInt8) : bA l ++ ([V.int .u8 (x.toNat : Int)] : List A) = bA (l ++ [x]) := by simp [bA, byteA]

section
variable {H : Heap} {Q : A → Heap → Prop}
theorem rtPut_spec {s : ByteArray} (ht : textOk s = true) (h : Q (.sl (bA (txt s ++ [0])) (some 0) ()) H) : AC Tryd.prog 36 [.str s] H Q := by
  rw [textOk, Bool.and_eq_true, decide_eq_true_eq, decide_eq_true_eq] at ht
  have htl := txt_len s
  have hsz := ht.2
  refine AC.enter (E := env Tryd.prog 26 (fun t => if t == 17 || t == 23 then .take else .copy) (fun _ => false)) env_ok Tryd.func36 rfl rfl rfl (by simp only [List.length_cons, List.length_nil]; exact of_decide_eq_true rfl) ?_
  ((try first | refine walk_aw env_ok (none) ?_ | refine walk_aw envR_ok (none) ?_); try simp -implicitDefEqProofs (maxSteps := 1000000) only [go_sem, ↓reduceIte, reduceCtorEq, Nat.reduceLT, Nat.reduceEqDiff, Nat.reduceBEq, Nat.reduceAdd, Nat.reduceMul, Nat.reduceSub, Nat.reduceLeDiff, Int.reduceNeg, Int.reduceLT, Int.reduceLE, Int.reduceEq, Int.reduceAdd, Int.reduceToNat])
  refine AW.loop (fun st => ∃ i : Nat, i ≤ s.size ∧ st.σ 0 = .str s ∧ st.σ 4 = .int .i64 i ∧ st.σ 3 = .sl (bA ((txt s).take i)) (some 0) () ∧ st.H = H)
    (fun st => match st.σ 4 with | .int _ i => s.size - i.toNat | _ => 0) ⟨0, by omega, rfl, rfl, rfl, rfl⟩ ?_
  rintro ⟨σ, H2⟩ ⟨i, hi, s0, s4, s3, rfl⟩
  simp only at s0 s4 s3
  have hcap : ((txt s).take i).length ≤ 140737488355327 := by rw [List.length_take]; omega
  by_cases c : i = s.size
  · have c1 : ¬ (i : Int) < (s.size : Int) := by omega
    ((try first | refine walk_aw env_ok (none) ?_ | refine walk_aw envR_ok (none) ?_); try simp -implicitDefEqProofs (maxSteps := 1000000) only [go_sem, ↓reduceIte, reduceCtorEq, Nat.reduceLT, Nat.reduceEqDiff, Nat.reduceBEq, Nat.reduceAdd, Nat.reduceMul, Nat.reduceSub, Nat.reduceLeDiff, Int.reduceNeg, Int.reduceLT, Int.reduceLE, Int.reduceEq, Int.reduceAdd, Int.reduceToNat, s0, s4, s3, c1, uni_i1, hcap, Nat.zero_le])
    rw [List.take_of_length_le (by omega)]
    exact .inl h
  · have c1 : (i : Int) < (s.size : Int) := by omega
    have c2 : (0 : Int) ≤ (i : Int) := by omega
    have hgi : s.data.toList.getD i 0 = (txt s)[i]'(by omega) := by
      rw [List.getD_eq_getElem?_getD]; show (txt s)[i]?.getD 0 = _; rw [List.getElem?_eq_getElem (by omega)]; rfl
    have hne : ¬ ((s.data.toList.getD i 0).toNat : Int) = 0 := by
      intro hc
      refine ht.1 (s.data.toList.getD i 0) ?_ (UInt8.toNat_inj.1 (by simpa using hc))
      rw [hgi]; exact List.getElem_mem _
    have e3 : IntKind.i64.wrap ((i : Int) + 1) = ((i + 1 : Nat) : Int) := IntWalk.i64_in _ (by omega)
    have hsn : bA ((txt s).take i) ++ ([V.int .u8 ((s.data.toList.getD i 0).toNat : Int)] : List A) = bA ((txt s).take (i + 1)) := by
      rw [bA_one, hgi, List.take_succ_eq_append_getElem (by omega)]
    ((try first | refine walk_aw env_ok (none) ?_ | refine walk_aw envR_ok (none) ?_); try simp -implicitDefEqProofs (maxSteps := 1000000) only [go_sem, ↓reduceIte, reduceCtorEq, Nat.reduceLT, Nat.reduceEqDiff, Nat.reduceBEq, Nat.reduceAdd, Nat.reduceMul, Nat.reduceSub, Nat.reduceLeDiff, Int.reduceNeg, Int.reduceLT, Int.reduceLE, Int.reduceEq, Int.reduceAdd, Int.reduceToNat, s0, s4, s3, c1, c2, hne, e3, hsn, uni_i1, hcap, Nat.zero_le])
    exact ⟨⟨i + 1, by omega, rfl, rfl⟩, by omega⟩

theorem fits_spec {n : Nat} {f : Int} {w : Bool} (hn : n < 18446744073709551616) (h : Q (.bool (fitsD n f w)) H) : AC Tryd.prog 40 [.int .u64 n, .int .i64 f, .bool w] H Q := by
  have hr := szr_range f w
  rw [fitsD] at h
  refine AC.enter (E := env Tryd.prog 33 (fun _ => .copy) (fun _ => false)) env_ok Tryd.func40 rfl rfl rfl (by simp only [List.length_cons, List.length_nil]; exact of_decide_eq_true rfl) ?_
  ((try first | refine walk_aw env_ok (none) ?_ | refine walk_aw envR_ok (none) ?_); try simp -implicitDefEqProofs (maxSteps := 1000000) only [go_sem, ↓reduceIte, reduceCtorEq, Nat.reduceLT, Nat.reduceEqDiff, Nat.reduceBEq, Nat.reduceAdd, Nat.reduceMul, Nat.reduceSub, Nat.reduceLeDiff, Int.reduceNeg, Int.reduceLT, Int.reduceLE, Int.reduceEq, Int.reduceAdd, Int.reduceToNat])
  refine rSize_spec ?_
  generalize szr f w = z at hr h
  obtain ⟨k, rfl⟩ : ∃ k : Nat, z = (k : Int) := ⟨z.toNat, by omega⟩
  rw [Int.toNat_natCast] at h
  ((try first | refine walk_aw env_ok (none) ?_ | refine walk_aw envR_ok (none) ?_); try simp -implicitDefEqProofs (maxSteps := 1000000) only [go_sem, ↓reduceIte, reduceCtorEq, Nat.reduceLT, Nat.reduceEqDiff, Nat.reduceBEq, Nat.reduceAdd, Nat.reduceMul, Nat.reduceSub, Nat.reduceLeDiff, Int.reduceNeg, Int.reduceLT, Int.reduceLE, Int.reduceEq, Int.reduceAdd, Int.reduceToNat])
  refine AW.loop (fun st => ∃ i : Nat, i ≤ k ∧ (k = 8 → i = 0) ∧ st.σ 7 = .int .i64 k ∧ st.σ 8 = .int .i64 i ∧ st.σ 0 = .int .u64 ((n / 256 ^ i : Nat) : Int) ∧ st.H = H)
    (fun st => match st.σ 8 with | .int _ i => k - i.toNat | _ => 0) ⟨0, by omega, by omega, rfl, rfl, by simp; rfl, rfl⟩ ?_
  rintro ⟨σ, H2⟩ ⟨i, hi, hi8, s7, s8, s0, rfl⟩
  simp only at s7 s8 s0
  by_cases c : i < k ∧ k < 8
  · have c1 : (i : Int) < (k : Int) := by omega
    have c2 : (k : Int) < 8 := by omega
    have e2 : IntKind.u64.wrap (((n / 256 ^ i : Nat) : Int).tdiv 256) = ((n / 256 ^ (i + 1) : Nat) : Int) := by
      have : n / 256 ^ i ≤ n := Nat.div_le_self _ _
      rw [Nat.pow_succ, ← Nat.div_div_eq_div_mul]
      generalize n / 256 ^ i = q at this ⊢
      rw [Int.tdiv_eq_ediv_of_nonneg (by omega), IntWalk.u64_in _ (by omega)]; omega
    have e3 : IntKind.i64.wrap ((i : Int) + 1) = ((i + 1 : Nat) : Int) := IntWalk.i64_in _ (by omega)
    ((try first | refine walk_aw env_ok (none) ?_ | refine walk_aw envR_ok (none) ?_); try simp -implicitDefEqProofs (maxSteps := 1000000) only [go_sem, ↓reduceIte, reduceCtorEq, Nat.reduceLT, Nat.reduceEqDiff, Nat.reduceBEq, Nat.reduceAdd, Nat.reduceMul, Nat.reduceSub, Nat.reduceLeDiff, Int.reduceNeg, Int.reduceLT, Int.reduceLE, Int.reduceEq, Int.reduceAdd, Int.reduceToNat, s7, s8, s0, c1, c2, e2, e3])
    exact ⟨⟨i + 1, by omega, by omega, rfl, rfl⟩, by omega⟩
  · by_cases c8 : k = 8
    · have hi0 := hi8 c8
      subst hi0
      subst c8
      rw [decide_eq_true (by omega)] at h
      ((try first | refine walk_aw env_ok (none) ?_ | refine walk_aw envR_ok (none) ?_); try simp -implicitDefEqProofs (maxSteps := 1000000) only [go_sem, ↓reduceIte, reduceCtorEq, Nat.reduceLT, Nat.reduceEqDiff, Nat.reduceBEq, Nat.reduceAdd, Nat.reduceMul, Nat.reduceSub, Nat.reduceLeDiff, Int.reduceNeg, Int.reduceLT, Int.reduceLE, Int.reduceEq, Int.reduceAdd, Int.reduceToNat, s7, s8, s0])
      exact .inl h
    · have hik : i = k := by omega
      subst hik
      have c1 : ¬ (i : Int) < (i : Int) := by omega
      by_cases c0 : i = 0
      · subst c0
        rw [decide_eq_true (by omega)] at h
        ((try first | refine walk_aw env_ok (none) ?_ | refine walk_aw envR_ok (none) ?_); try simp -implicitDefEqProofs (maxSteps := 1000000) only [go_sem, ↓reduceIte, reduceCtorEq, Nat.reduceLT, Nat.reduceEqDiff, Nat.reduceBEq, Nat.reduceAdd, Nat.reduceMul, Nat.reduceSub, Nat.reduceLeDiff, Int.reduceNeg, Int.reduceLT, Int.reduceLE, Int.reduceEq, Int.reduceAdd, Int.reduceToNat, s7, s8, s0, c1])
        exact .inl h
      · have d0 : ¬ (i : Int) = 0 := by omega
        have d8 : ¬ (i : Int) = 8 := by omega
        rw [show decide ((i : Int) = 0 ∨ (i : Int) = 8 ∨ n / 256 ^ i = 0) = decide (((n / 256 ^ i : Nat) : Int) = 0) from decide_eq_decide.2 (by omega)] at h
        ((try first | refine walk_aw env_ok (none) ?_ | refine walk_aw envR_ok (none) ?_); try simp -implicitDefEqProofs (maxSteps := 1000000) only [go_sem, ↓reduceIte, reduceCtorEq, Nat.reduceLT, Nat.reduceEqDiff, Nat.reduceBEq, Nat.reduceAdd, Nat.reduceMul, Nat.reduceSub, Nat.reduceLeDiff, Int.reduceNeg, Int.reduceLT, Int.reduceLE, Int.reduceEq, Int.reduceAdd, Int.reduceToNat, s7, s8, s0, c1, d0, d8])
        exact .inl h

theorem Same_spec {x y : RV} (h : Q (.bool (rawSame x y)) H) : AC Tryd.prog 20 [.agg x.cells, .agg y.cells] H Q := by
  have eq_spec : ∀ {a b : List UInt8} {G : Heap} {R : A → Heap → Prop}, R (.bool (decide (a = b))) G → AC Tryd.prog 42 [.sl (bA a) none (), .sl (bA b) none ()] G R := by
    intro a b G R hh
    refine AC.enter (E := env Tryd.prog 10 (fun _ => .copy) (fun _ => false)) env_ok Tryd.func42 rfl rfl rfl (by simp only [List.length_cons, List.length_nil]; exact of_decide_eq_true rfl) ?_
    by_cases e : a = b
    · rw [decide_eq_true e] at hh
      ((try first | refine walk_aw env_ok (none) ?_ | refine walk_aw envR_ok (none) ?_); try simp -implicitDefEqProofs (maxSteps := 1000000) only [go_sem, ↓reduceIte, reduceCtorEq, Nat.reduceLT, Nat.reduceEqDiff, Nat.reduceBEq, Nat.reduceAdd, Nat.reduceMul, Nat.reduceSub, Nat.reduceLeDiff, Int.reduceNeg, Int.reduceLT, Int.reduceLE, Int.reduceEq, Int.reduceAdd, Int.reduceToNat, e])
      exact .inl hh
    · rw [decide_eq_false e] at hh
      ((try first | refine walk_aw env_ok (none) ?_ | refine walk_aw envR_ok (none) ?_); try simp -implicitDefEqProofs (maxSteps := 1000000) only [go_sem, ↓reduceIte, reduceCtorEq, Nat.reduceLT, Nat.reduceEqDiff, Nat.reduceBEq, Nat.reduceAdd, Nat.reduceMul, Nat.reduceSub, Nat.reduceLeDiff, Int.reduceNeg, Int.reduceLT, Int.reduceLE, Int.reduceEq, Int.reduceAdd, Int.reduceToNat, str_ne e])
      exact .inl hh
  refine AC.enter (E := env Tryd.prog 38 (fun _ => .copy) (fun _ => false)) env_ok Tryd.func20 rfl rfl rfl (by simp only [List.length_cons, List.length_nil]; exact of_decide_eq_true rfl) ?_
  rw [rawSame] at h
  by_cases e1 : x.form = y.form
  · rw [decide_eq_true e1, Bool.true_and] at h
    by_cases e2 : x.u = y.u
    · rw [decide_eq_true e2, Bool.true_and] at h
      by_cases e3 : x.s = y.s
      · rw [decide_eq_true e3, Bool.true_and] at h
        ((try first | refine walk_aw env_ok (none) ?_ | refine walk_aw envR_ok (none) ?_); try simp -implicitDefEqProofs (maxSteps := 1000000) only [go_sem, ↓reduceIte, reduceCtorEq, Nat.reduceLT, Nat.reduceEqDiff, Nat.reduceBEq, Nat.reduceAdd, Nat.reduceMul, Nat.reduceSub, Nat.reduceLeDiff, Int.reduceNeg, Int.reduceLT, Int.reduceLE, Int.reduceEq, Int.reduceAdd, Int.reduceToNat, e1, e2, e3])
        refine eq_spec ?_
        by_cases e4 : x.b = y.b
        · rw [decide_eq_true e4, Bool.true_and] at h
          ((try first | refine walk_aw env_ok (none) ?_ | refine walk_aw envR_ok (none) ?_); try simp -implicitDefEqProofs (maxSteps := 1000000) only [go_sem, ↓reduceIte, reduceCtorEq, Nat.reduceLT, Nat.reduceEqDiff, Nat.reduceBEq, Nat.reduceAdd, Nat.reduceMul, Nat.reduceSub, Nat.reduceLeDiff, Int.reduceNeg, Int.reduceLT, Int.reduceLE, Int.reduceEq, Int.reduceAdd, Int.reduceToNat, e4])
          exact .inr h
        · rw [decide_eq_false e4, Bool.false_and] at h
          ((try first | refine walk_aw env_ok (none) ?_ | refine walk_aw envR_ok (none) ?_); try simp -implicitDefEqProofs (maxSteps := 1000000) only [go_sem, ↓reduceIte, reduceCtorEq, Nat.reduceLT, Nat.reduceEqDiff, Nat.reduceBEq, Nat.reduceAdd, Nat.reduceMul, Nat.reduceSub, Nat.reduceLeDiff, Int.reduceNeg, Int.reduceLT, Int.reduceLE, Int.reduceEq, Int.reduceAdd, Int.reduceToNat, e4])
          exact .inr h
      · rw [decide_eq_false e3, Bool.false_and] at h
        ((try first | refine walk_aw env_ok (none) ?_ | refine walk_aw envR_ok (none) ?_); try simp -implicitDefEqProofs (maxSteps := 1000000) only [go_sem, ↓reduceIte, reduceCtorEq, Nat.reduceLT, Nat.reduceEqDiff, Nat.reduceBEq, Nat.reduceAdd, Nat.reduceMul, Nat.reduceSub, Nat.reduceLeDiff, Int.reduceNeg, Int.reduceLT, Int.reduceLE, Int.reduceEq, Int.reduceAdd, Int.reduceToNat, e1, e2, e3])
        exact .inr h
    · rw [decide_eq_false e2, Bool.false_and] at h
      have e2' : ¬ (x.u : Int) = (y.u : Int) := by omega
      ((try first | refine walk_aw env_ok (none) ?_ | refine walk_aw envR_ok (none) ?_); try simp -implicitDefEqProofs (maxSteps := 1000000) only [go_sem, ↓reduceIte, reduceCtorEq, Nat.reduceLT, Nat.reduceEqDiff, Nat.reduceBEq, Nat.reduceAdd, Nat.reduceMul, Nat.reduceSub, Nat.reduceLeDiff, Int.reduceNeg, Int.reduceLT, Int.reduceLE, Int.reduceEq, Int.reduceAdd, Int.reduceToNat, e1, e2'])
      exact .inr h
  · rw [decide_eq_false e1, Bool.false_and] at h
    ((try first | refine walk_aw env_ok (none) ?_ | refine walk_aw envR_ok (none) ?_); try simp -implicitDefEqProofs (maxSteps := 1000000) only [go_sem, ↓reduceIte, reduceCtorEq, Nat.reduceLT, Nat.reduceEqDiff, Nat.reduceBEq, Nat.reduceAdd, Nat.reduceMul, Nat.reduceSub, Nat.reduceLeDiff, Int.reduceNeg, Int.reduceLT, Int.reduceLE, Int.reduceEq, Int.reduceAdd, Int.reduceToNat, e1])
    exact .inr h
end
end Go.Ab
end

section
/- The law RawBack answers true. -/
namespace Go.Ab
open V Go.Proofs
set_option maxHeartbeats 8000000
set_option maxRecDepth 10000
set_option linter.unusedSimpArgs false
set_option linter.unusedVariables false

theorem take_back {r : RV} {w : Bool} {tail : List UInt8} (h : rawRight r w = true) (hu : r.u < 18446744073709551616) (hs : -9223372036854775808 ≤ r.s ∧ r.s < 9223372036854775808) :
    rawTake ⟨rawPut r w ++ tail, 0, 0⟩ r.form r.s w = (r, ⟨rawPut r w ++ tail, (rawPut r w).length, 0⟩) := by
  have p0 := (right_parts h).1
  have n22 : r.form ≠ 22 := by intro c; rw [c] at p0; exact p0 rfl
  have hv := rawVal_back (s := ⟨rawPut r w ++ tail, 0, 0⟩) (rest := tail) h hu hs rfl rfl
  rw [rawTake, show formOf ⟨rawPut r w ++ tail, 0, 0⟩ r.form = r.form from if_neg n22, show formSt ⟨rawPut r w ++ tail, 0, 0⟩ r.form = ⟨rawPut r w ++ tail, 0, 0⟩ from if_neg n22, if_neg p0, if_pos rfl, hv, if_pos rfl]
  simp
theorem rawVal_impl {s : CS} {f i j : Int} {w : Bool} (h : f ≠ 33) : rawVal s f i w = rawVal s f j w := by
  unfold rawVal; rw [if_neg h, if_neg h]
theorem take_ind {r : RV} {w : Bool} {tail : List UInt8} (h : rawRight r w = true) (hu : r.u < 18446744073709551616) (hs : -9223372036854775808 ≤ r.s ∧ r.s < 9223372036854775808) (n33 : r.form ≠ 33) :
    rawTake ⟨UInt8.ofNat r.form.toNat :: (rawPut r w ++ tail), 0, 0⟩ 22 0 w = (r, ⟨UInt8.ofNat r.form.toNat :: (rawPut r w ++ tail), 1 + (rawPut r w).length, 0⟩) := by
  have p0 := (right_parts h).1
  obtain ⟨k, hk, hf⟩ := kd_in p0
  have hku : putU k = [UInt8.ofNat k] := by rw [putU_def, if_pos (by omega)]
  have hul := uleb_putU (n := k) (s := ⟨UInt8.ofNat r.form.toNat :: (rawPut r w ++ tail), 0, 0⟩) (rest := rawPut r w ++ tail) (by omega) rfl (by rw [hku, hf]; simp)
  rw [hku] at hul
  have hv := rawVal_back (s := ⟨UInt8.ofNat r.form.toNat :: (rawPut r w ++ tail), 1, 0⟩) (rest := tail) h hu hs rfl rfl
  have hfo : formOf ⟨UInt8.ofNat r.form.toNat :: (rawPut r w ++ tail), 0, 0⟩ 22 = r.form := by
    rw [formOf, if_pos rfl, hul]; simp only; rw [if_pos (by omega), hf]
  have hfs : formSt ⟨UInt8.ofNat r.form.toNat :: (rawPut r w ++ tail), 0, 0⟩ 22 = ⟨UInt8.ofNat r.form.toNat :: (rawPut r w ++ tail), 1, 0⟩ := by
    rw [formSt, if_pos rfl, hul]; rfl
  rw [rawTake, hfo, hfs, if_neg p0, if_pos rfl, rawVal_impl (j := r.s) n33, hv, if_pos rfl]

section
variable {H : Heap} {Q : A → Heap → Prop}
theorem RawBack_spec {x : RV} {tail : List UInt8} {w : Bool} (hu : x.u < 18446744073709551616) (hs : -9223372036854775808 ≤ x.s ∧ x.s < 9223372036854775808) (ht : x.t.size ≤ 9223372036854775807) (h : Q (.bool true) H) :
    AC Tryd.prog 5 [.agg x.cells, .bool w, .sl (bA tail) none ()] H Q := by
  refine AC.enter (E := env Tryd.prog 97 (fun _ => .copy) (fun t => t == 27 || t == 40 || t == 76)) env_ok Tryd.func5 rfl rfl rfl (by simp only [List.length_cons, List.length_nil]; exact of_decide_eq_true rfl) ?_
  ((try first | refine walk_aw env_ok (none) ?_ | refine walk_aw envR_ok (none) ?_); try simp -implicitDefEqProofs (maxSteps := 1000000) only [go_sem, ↓reduceIte, reduceCtorEq, Nat.reduceLT, Nat.reduceEqDiff, Nat.reduceBEq, Nat.reduceAdd, Nat.reduceMul, Nat.reduceSub, Nat.reduceLeDiff, Int.reduceNeg, Int.reduceLT, Int.reduceLE, Int.reduceEq, Int.reduceAdd, Int.reduceToNat])
  refine works14_spec ?_
  by_cases c1 : (x.b.length : Int) > 2000
  · ((try first | refine walk_aw env_ok (none) ?_ | refine walk_aw envR_ok (none) ?_); try simp -implicitDefEqProofs (maxSteps := 1000000) only [go_sem, ↓reduceIte, reduceCtorEq, Nat.reduceLT, Nat.reduceEqDiff, Nat.reduceBEq, Nat.reduceAdd, Nat.reduceMul, Nat.reduceSub, Nat.reduceLeDiff, Int.reduceNeg, Int.reduceLT, Int.reduceLE, Int.reduceEq, Int.reduceAdd, Int.reduceToNat, c1])
    exact .inr h
  by_cases c2 : (tail.length : Int) > 2000
  · ((try first | refine walk_aw env_ok (none) ?_ | refine walk_aw envR_ok (none) ?_); try simp -implicitDefEqProofs (maxSteps := 1000000) only [go_sem, ↓reduceIte, reduceCtorEq, Nat.reduceLT, Nat.reduceEqDiff, Nat.reduceBEq, Nat.reduceAdd, Nat.reduceMul, Nat.reduceSub, Nat.reduceLeDiff, Int.reduceNeg, Int.reduceLT, Int.reduceLE, Int.reduceEq, Int.reduceAdd, Int.reduceToNat, c1, c2])
    exact .inr h
  have hx : x.In := ⟨hu, hs, by omega, ht⟩
  ((try first | refine walk_aw env_ok (none) ?_ | refine walk_aw envR_ok (none) ?_); try simp -implicitDefEqProofs (maxSteps := 1000000) only [go_sem, ↓reduceIte, reduceCtorEq, Nat.reduceLT, Nat.reduceEqDiff, Nat.reduceBEq, Nat.reduceAdd, Nat.reduceMul, Nat.reduceSub, Nat.reduceLeDiff, Int.reduceNeg, Int.reduceLT, Int.reduceLE, Int.reduceEq, Int.reduceAdd, Int.reduceToNat, c1, c2])
  cases hR : rawRight x w with
  | false =>
    refine Put_spec (b := []) (k := 0) (by decide) (by decide) hx (by omega) (fun _ => ?_) (fun hc => absurd hc (by rw [hR]; decide))
    ((try first | refine walk_aw env_ok (none) ?_ | refine walk_aw envR_ok (none) ?_); try simp -implicitDefEqProofs (maxSteps := 1000000) only [go_sem, ↓reduceIte, reduceCtorEq, Nat.reduceLT, Nat.reduceEqDiff, Nat.reduceBEq, Nat.reduceAdd, Nat.reduceMul, Nat.reduceSub, Nat.reduceLeDiff, Int.reduceNeg, Int.reduceLT, Int.reduceLE, Int.reduceEq, Int.reduceAdd, Int.reduceToNat])
    refine Right_spec hx ?_
    rw [hR]
    ((try first | refine walk_aw env_ok (none) ?_ | refine walk_aw envR_ok (none) ?_); try simp -implicitDefEqProofs (maxSteps := 1000000) only [go_sem, ↓reduceIte, reduceCtorEq, Nat.reduceLT, Nat.reduceEqDiff, Nat.reduceBEq, Nat.reduceAdd, Nat.reduceMul, Nat.reduceSub, Nat.reduceLeDiff, Int.reduceNeg, Int.reduceLT, Int.reduceLE, Int.reduceEq, Int.reduceAdd, Int.reduceToNat])
    exact .inr h
  | true =>
    refine Put_spec (b := []) (k := 0) (by decide) (by decide) hx (by omega) (fun hc => absurd hc (by rw [hR]; decide)) (fun _ => ?_)
    rw [List.nil_append]
    have hts : kd x.form = 5 → x.t.size ≤ 200 := by
      intro e; have := right_text hR e
      rw [textOk, Bool.and_eq_true, decide_eq_true_eq, decide_eq_true_eq] at this; exact this.2
    have hpl : (rawPut x w).length ≤ 4000 := by
      unfold rawPut
      split
      · have := putS_le hs; omega
      · split
        · rename_i e; have := hts e; rw [List.length_append, txt_len]; simp only [List.length_cons, List.length_nil]; omega
        · split
          · omega
          · split
            · have := numB_len (n := x.b.length) (by omega) (szf x.form) w; rw [List.length_append]; omega
            · split
              · have := numB_len hu (szf x.form) w; omega
              · simp
    have tb := take_back (tail := tail) hR hu hs
    have f1 : (rawPut x w).length ≤ 140737488355328 := by omega
    have f2 : (rawPut x w).length + tail.length ≤ 140737488355328 := by omega
    ((try first | refine walk_aw env_ok (none) ?_ | refine walk_aw envR_ok (none) ?_); try simp -implicitDefEqProofs (maxSteps := 1000000) only [go_sem, ↓reduceIte, reduceCtorEq, Nat.reduceLT, Nat.reduceEqDiff, Nat.reduceBEq, Nat.reduceAdd, Nat.reduceMul, Nat.reduceSub, Nat.reduceLeDiff, Int.reduceNeg, Int.reduceLT, Int.reduceLE, Int.reduceEq, Int.reduceAdd, Int.reduceToNat, f1, f2, Nat.zero_le])
    refine New_spec (b := rawPut x w ++ tail) (by rw [List.length_append]; omega) ?_
    ((try first | refine walk_aw env_ok (none) ?_ | refine walk_aw envR_ok (none) ?_); try simp -implicitDefEqProofs (maxSteps := 1000000) only [go_sem, ↓reduceIte, reduceCtorEq, Nat.reduceLT, Nat.reduceEqDiff, Nat.reduceBEq, Nat.reduceAdd, Nat.reduceMul, Nat.reduceSub, Nat.reduceLeDiff, Int.reduceNeg, Int.reduceLT, Int.reduceLE, Int.reduceEq, Int.reduceAdd, Int.reduceToNat])
    have hok : (CS.mk (rawPut x w ++ tail) 0 0).Ok := ⟨by simp, by simp only [List.length_append]; omega, by simp, by simp⟩
    have hok2 : (CS.mk (rawPut x w ++ tail) (rawPut x w).length 0).Ok := ⟨by simp, by simp only [List.length_append]; omega, by simp, by simp⟩
    have hlf : (CS.mk (rawPut x w ++ tail) (rawPut x w).length 0).left = tail.length := by rw [CS.left, if_pos rfl]; simp
    refine Take_spec (s := ⟨rawPut x w ++ tail, 0, 0⟩) hok (by simp only [List.length_append]; omega) (by first | exact app_get0 .. | exact app_get ..) ?_
    rw [tb]
    ((try first | refine walk_aw env_ok (none) ?_ | refine walk_aw envR_ok (none) ?_); try simp -implicitDefEqProofs (maxSteps := 1000000) only [go_sem, ↓reduceIte, reduceCtorEq, Nat.reduceLT, Nat.reduceEqDiff, Nat.reduceBEq, Nat.reduceAdd, Nat.reduceMul, Nat.reduceSub, Nat.reduceLeDiff, Int.reduceNeg, Int.reduceLT, Int.reduceLE, Int.reduceEq, Int.reduceAdd, Int.reduceToNat])
    refine Err_spec (s := ⟨rawPut x w ++ tail, (rawPut x w).length, 0⟩) (by first | exact app_get0 .. | exact app_get ..) ?_
    ((try first | refine walk_aw env_ok (none) ?_ | refine walk_aw envR_ok (none) ?_); try simp -implicitDefEqProofs (maxSteps := 1000000) only [go_sem, ↓reduceIte, reduceCtorEq, Nat.reduceLT, Nat.reduceEqDiff, Nat.reduceBEq, Nat.reduceAdd, Nat.reduceMul, Nat.reduceSub, Nat.reduceLeDiff, Int.reduceNeg, Int.reduceLT, Int.reduceLE, Int.reduceEq, Int.reduceAdd, Int.reduceToNat])
    refine Same_spec ?_
    rw [rawSame_self]
    ((try first | refine walk_aw env_ok (none) ?_ | refine walk_aw envR_ok (none) ?_); try simp -implicitDefEqProofs (maxSteps := 1000000) only [go_sem, ↓reduceIte, reduceCtorEq, Nat.reduceLT, Nat.reduceEqDiff, Nat.reduceBEq, Nat.reduceAdd, Nat.reduceMul, Nat.reduceSub, Nat.reduceLeDiff, Int.reduceNeg, Int.reduceLT, Int.reduceLE, Int.reduceEq, Int.reduceAdd, Int.reduceToNat])
    refine Left_spec hok2 (by first | exact app_get0 .. | exact app_get ..) ?_
    rw [hlf]
    by_cases n33 : x.form = 33
    · ((try first | refine walk_aw env_ok (none) ?_ | refine walk_aw envR_ok (none) ?_); try simp -implicitDefEqProofs (maxSteps := 1000000) only [go_sem, ↓reduceIte, reduceCtorEq, Nat.reduceLT, Nat.reduceEqDiff, Nat.reduceBEq, Nat.reduceAdd, Nat.reduceMul, Nat.reduceSub, Nat.reduceLeDiff, Int.reduceNeg, Int.reduceLT, Int.reduceLE, Int.reduceEq, Int.reduceAdd, Int.reduceToNat, n33])
      exact .inr h
    have p0 := (right_parts hR).1
    obtain ⟨k, hk, hf⟩ := kd_in p0
    have ti := take_ind (tail := tail) hR hu hs n33
    have hcons : V.int .u8 (IntKind.u8.wrap x.form) :: bA (rawPut x w) = bA (UInt8.ofNat x.form.toNat :: rawPut x w) := by
      rw [hf, u8_nat]
      simp only [bA, List.map_cons, byteA, Int.toNat_natCast]
      rw [show (UInt8.ofNat k).toNat = k % 256 by simp]
    have f3 : (rawPut x w).length + 1 ≤ 140737488355328 := by omega
    have f3' : 1 + (rawPut x w).length ≤ 140737488355328 := by omega
    have f4 : (UInt8.ofNat x.form.toNat :: rawPut x w).length + tail.length ≤ 140737488355328 := by simp; omega
    have f5 : (rawPut x w).length + 1 + tail.length ≤ 140737488355328 := by omega
    ((try first | refine walk_aw env_ok (none) ?_ | refine walk_aw envR_ok (none) ?_); try simp -implicitDefEqProofs (maxSteps := 1000000) only [go_sem, ↓reduceIte, reduceCtorEq, Nat.reduceLT, Nat.reduceEqDiff, Nat.reduceBEq, Nat.reduceAdd, Nat.reduceMul, Nat.reduceSub, Nat.reduceLeDiff, Int.reduceNeg, Int.reduceLT, Int.reduceLE, Int.reduceEq, Int.reduceAdd, Int.reduceToNat, n33, hcons, f3, f3', f4, f5, Nat.zero_le])
    refine New_spec (b := UInt8.ofNat x.form.toNat :: (rawPut x w ++ tail)) (by simp; omega) ?_
    have hokb : (CS.mk (UInt8.ofNat x.form.toNat :: (rawPut x w ++ tail)) 0 0).Ok := ⟨by simp, by simp; omega, by simp, by simp⟩
    have hokb2 : (CS.mk (UInt8.ofNat x.form.toNat :: (rawPut x w ++ tail)) (1 + (rawPut x w).length) 0).Ok := ⟨by simp; omega, by simp; omega, by simp, by simp⟩
    have hlf2 : (CS.mk (UInt8.ofNat x.form.toNat :: (rawPut x w ++ tail)) (1 + (rawPut x w).length) 0).left = tail.length := by rw [CS.left, if_pos rfl]; simp; omega
    ((try first | refine walk_aw env_ok (none) ?_ | refine walk_aw envR_ok (none) ?_); try simp -implicitDefEqProofs (maxSteps := 1000000) only [go_sem, ↓reduceIte, reduceCtorEq, Nat.reduceLT, Nat.reduceEqDiff, Nat.reduceBEq, Nat.reduceAdd, Nat.reduceMul, Nat.reduceSub, Nat.reduceLeDiff, Int.reduceNeg, Int.reduceLT, Int.reduceLE, Int.reduceEq, Int.reduceAdd, Int.reduceToNat])
    refine Take_spec (s := ⟨UInt8.ofNat x.form.toNat :: (rawPut x w ++ tail), 0, 0⟩) hokb (by simp; omega) (by first | exact app_get0 .. | exact app_get ..) ?_
    rw [ti]
    ((try first | refine walk_aw env_ok (none) ?_ | refine walk_aw envR_ok (none) ?_); try simp -implicitDefEqProofs (maxSteps := 1000000) only [go_sem, ↓reduceIte, reduceCtorEq, Nat.reduceLT, Nat.reduceEqDiff, Nat.reduceBEq, Nat.reduceAdd, Nat.reduceMul, Nat.reduceSub, Nat.reduceLeDiff, Int.reduceNeg, Int.reduceLT, Int.reduceLE, Int.reduceEq, Int.reduceAdd, Int.reduceToNat])
    refine Err_spec (s := ⟨UInt8.ofNat x.form.toNat :: (rawPut x w ++ tail), 1 + (rawPut x w).length, 0⟩) (by first | exact app_get0 .. | exact app_get ..) ?_
    ((try first | refine walk_aw env_ok (none) ?_ | refine walk_aw envR_ok (none) ?_); try simp -implicitDefEqProofs (maxSteps := 1000000) only [go_sem, ↓reduceIte, reduceCtorEq, Nat.reduceLT, Nat.reduceEqDiff, Nat.reduceBEq, Nat.reduceAdd, Nat.reduceMul, Nat.reduceSub, Nat.reduceLeDiff, Int.reduceNeg, Int.reduceLT, Int.reduceLE, Int.reduceEq, Int.reduceAdd, Int.reduceToNat])
    refine Same_spec ?_
    rw [rawSame_self]
    ((try first | refine walk_aw env_ok (none) ?_ | refine walk_aw envR_ok (none) ?_); try simp -implicitDefEqProofs (maxSteps := 1000000) only [go_sem, ↓reduceIte, reduceCtorEq, Nat.reduceLT, Nat.reduceEqDiff, Nat.reduceBEq, Nat.reduceAdd, Nat.reduceMul, Nat.reduceSub, Nat.reduceLeDiff, Int.reduceNeg, Int.reduceLT, Int.reduceLE, Int.reduceEq, Int.reduceAdd, Int.reduceToNat])
    refine Left_spec hokb2 (by first | exact app_get0 .. | exact app_get ..) ?_
    rw [hlf2]
    ((try first | refine walk_aw env_ok (none) ?_ | refine walk_aw envR_ok (none) ?_); try simp -implicitDefEqProofs (maxSteps := 1000000) only [go_sem, ↓reduceIte, reduceCtorEq, Nat.reduceLT, Nat.reduceEqDiff, Nat.reduceBEq, Nat.reduceAdd, Nat.reduceMul, Nat.reduceSub, Nat.reduceLeDiff, Int.reduceNeg, Int.reduceLT, Int.reduceLE, Int.reduceEq, Int.reduceAdd, Int.reduceToNat])
    exact .inr h
end
end Go.Ab
end

section
/- Values of both widths. -/
namespace Go.Ab
open V Go.Proofs
set_option maxHeartbeats 4000000
set_option linter.unusedSimpArgs false
set_option linter.unusedVariables false

theorem fits_wide {n : Nat} {z : Int} (h : fitsR n z false = true) : fitsR n z true = true := by
  unfold fitsR zz at *
  by_cases c : z = -2
  · rw [if_pos c]; simp
  · rw [if_neg c] at h ⊢; exact h
theorem right_wide {r : RV} (h : rawRight r false = true) : rawRight r true = true := by
  unfold rawRight at *
  split
  · rename_i c; rw [if_pos c] at h; exact h
  · rename_i c
    rw [if_neg c] at h
    split
    · rename_i d; rw [if_pos d] at h; exact h
    · rename_i d
      rw [if_neg d] at h
      split
      · rename_i e; rw [if_pos e] at h; exact h
      · rename_i e
        rw [if_neg e] at h
        split
        · rename_i g; rw [if_pos g] at h; exact h
        · rename_i g
          rw [if_neg g] at h
          split
          · rename_i k
            rw [if_pos k, Bool.and_eq_true, Bool.and_eq_true] at h
            rw [Bool.and_eq_true, Bool.and_eq_true]
            exact ⟨h.1, h.2.1, fits_wide h.2.2⟩
          · rename_i k; rw [if_neg k] at h; exact fits_wide h
theorem offset_forms : ∀ k : Nat, k < 45 → ((kindL.getD k 0 = 6 ∨ kindL.getD k 0 = 7 ∨ kindL.getD k 0 = 12 ∨ kindL.getD k 0 = 14) ↔ sizeL.getD k 0 = -2) := by decide
theorem put_alike {r : RV} (h : szf r.form ≠ -2) : rawPut r true = rawPut r false := by
  have hz : ∀ n, numB n (szf r.form) true = numB n (szf r.form) false := by intro n; unfold numB zz; rw [if_neg h, if_neg h]
  unfold rawPut
  rw [hz, hz]
theorem offset_iff {f : Int} (h : kd f ≠ 0) : (kd f = 6 ∨ kd f = 7 ∨ kd f = 12 ∨ kd f = 14) ↔ szf f = -2 := by
  obtain ⟨k, hk, rfl⟩ := kd_in h
  rw [kd_nat hk, szf_nat hk]
  exact offset_forms k hk
end Go.Ab
end

section
/- The law RawTakes answers true. -/
namespace Go.Ab
open V Go.Proofs
set_option maxHeartbeats 8000000
set_option maxRecDepth 10000
set_option linter.unusedSimpArgs false
set_option linter.unusedVariables false

theorem AW.post {E : Env} {c : Code} {Q : X → St → Prop} {st : St} {J : St → Prop} (h : AW E c (fun x st => x = .normal ∧ J st) st) (hJ : ∀ st, J st → Q .normal st) : AW E c Q st :=
  h.mono (by rintro x st ⟨rfl, h⟩; exact hJ st h)
section
variable {H : Heap} {Q : A → Heap → Prop}
theorem RawTakes_spec {b : List UInt8} {at_ f i : Int} {w : Bool} (h : Q (.bool true) H) : AC Tryd.prog 3 [.sl (bA b) none (), .agg [.int .i64 at_, .int .i64 f, .int .i64 i], .bool w] H Q := by
  refine AC.enter (E := env Tryd.prog 68 (fun _ => .copy) (fun _ => false)) env_ok Tryd.func3 rfl rfl rfl (by simp only [List.length_cons, List.length_nil]; exact of_decide_eq_true rfl) ?_
  ((try first | refine walk_aw env_ok (none) ?_ | refine walk_aw envR_ok (none) ?_); try simp -implicitDefEqProofs (maxSteps := 1000000) only [go_sem, ↓reduceIte, reduceCtorEq, Nat.reduceLT, Nat.reduceEqDiff, Nat.reduceBEq, Nat.reduceAdd, Nat.reduceMul, Nat.reduceSub, Nat.reduceLeDiff, Int.reduceNeg, Int.reduceLT, Int.reduceLE, Int.reduceEq, Int.reduceAdd, Int.reduceToNat])
  by_cases c1 : (b.length : Int) > 3000
  · ((try first | refine walk_aw env_ok (none) ?_ | refine walk_aw envR_ok (none) ?_); try simp -implicitDefEqProofs (maxSteps := 1000000) only [go_sem, ↓reduceIte, reduceCtorEq, Nat.reduceLT, Nat.reduceEqDiff, Nat.reduceBEq, Nat.reduceAdd, Nat.reduceMul, Nat.reduceSub, Nat.reduceLeDiff, Int.reduceNeg, Int.reduceLT, Int.reduceLE, Int.reduceEq, Int.reduceAdd, Int.reduceToNat, c1])
    refine works14_spec ?_
    ((try first | refine walk_aw env_ok (none) ?_ | refine walk_aw envR_ok (none) ?_); try simp -implicitDefEqProofs (maxSteps := 1000000) only [go_sem, ↓reduceIte, reduceCtorEq, Nat.reduceLT, Nat.reduceEqDiff, Nat.reduceBEq, Nat.reduceAdd, Nat.reduceMul, Nat.reduceSub, Nat.reduceLeDiff, Int.reduceNeg, Int.reduceLT, Int.reduceLE, Int.reduceEq, Int.reduceAdd, Int.reduceToNat])
    exact .inr h
  have hb : b.length < 140737488355328 := by omega
  ((try first | refine walk_aw env_ok (none) ?_ | refine walk_aw envR_ok (none) ?_); try simp -implicitDefEqProofs (maxSteps := 1000000) only [go_sem, ↓reduceIte, reduceCtorEq, Nat.reduceLT, Nat.reduceEqDiff, Nat.reduceBEq, Nat.reduceAdd, Nat.reduceMul, Nat.reduceSub, Nat.reduceLeDiff, Int.reduceNeg, Int.reduceLT, Int.reduceLE, Int.reduceEq, Int.reduceAdd, Int.reduceToNat, c1])
  refine New_spec hb ?_
  ((try first | refine walk_aw env_ok (none) ?_ | refine walk_aw envR_ok (none) ?_); try simp -implicitDefEqProofs (maxSteps := 1000000) only [go_sem, ↓reduceIte, reduceCtorEq, Nat.reduceLT, Nat.reduceEqDiff, Nat.reduceBEq, Nat.reduceAdd, Nat.reduceMul, Nat.reduceSub, Nat.reduceLeDiff, Int.reduceNeg, Int.reduceLT, Int.reduceLE, Int.reduceEq, Int.reduceAdd, Int.reduceToNat])
  have hok : (CS.mk b 0 0).Ok := ⟨by simp, by simp only; omega, by simp, by simp⟩
  have hr1 : ([V.sl (bA b) none (), .int .i64 0, .int .i64 0] : List A) = (CS.mk b 0 0).ref := rfl
  refine AW.post (J := fun st => st.σ 4 = .ptr (some (H.length, 0)) ∧ st.σ 7 = .ptr (some (H.length + 1, 0)) ∧ st.σ 8 = .ptr (some (H.length + 2, 0)) ∧
      (match st.σ 9, st.σ 10 with
        | .ptr (some (i9, 0)), .ptr (some (i10, 0)) => st.H[i9]? = some (.cells (rawTake ⟨b, 0, 0⟩ f i w).1.cells) ∧ st.H[i10]? = some (.cells (rawTake ⟨b, 0, 0⟩ f i w).1.cells)
        | _, _ => False) ∧
      st.H[H.length]? = some (.cells [.int .i64 at_, .int .i64 f, .int .i64 i]) ∧ st.H[H.length + 1]? = some (.cells (rawTake ⟨b, 0, 0⟩ f i w).2.cur) ∧ st.H[H.length + 2]? = some (.cells (rawTake ⟨b, 0, 0⟩ f i w).2.ref) ∧
      st.H.take H.length = H) ?_ ?_
  · refine AW.tree env_ok [0, 0, 0, 7, 0, 0, 0, 127, 0, 0, 1023, 2047] [0, 1, 2, 4, 5, 6] [3, 7, 8, 9, 10, 11] (.alt 3 [4, 5, 6] [] (.alt 7 [] [] (.alt 8 [0, 1, 2, 4, 5, 6] [] (.alt 9 [0, 1, 2, 4, 5, 6] [] (.alt 10 [] [] (.alt 11 [] [] .leaf .leaf) .leaf) .leaf) (.alt 9 [0, 1, 2, 4, 5, 6] [] (.alt 8 [0, 1, 2, 4, 5, 6] [] (.alt 10 [] [] (.alt 11 [] [] .leaf .leaf) .leaf) .leaf) .leaf)) (.alt 8 [0, 1, 2, 4, 5, 6] [] (.alt 7 [] [] (.alt 9 [0, 1, 2, 4, 5, 6] [] (.alt 10 [] [] (.alt 11 [] [] .leaf .leaf) .leaf) .leaf) (.alt 9 [0, 1, 2, 4, 5, 6] [] (.alt 7 [] [] (.alt 10 [] [] (.alt 11 [] [] .leaf .leaf) .leaf) .leaf) .leaf)) (.alt 9 [0, 1, 2, 4, 5, 6] [] (.alt 7 [] [] (.alt 8 [0, 1, 2, 4, 5, 6] [] (.alt 10 [] [] (.alt 11 [] [] .leaf .leaf) .leaf) .leaf) (.alt 8 [0, 1, 2, 4, 5, 6] [] (.alt 7 [] [] (.alt 10 [] [] (.alt 11 [] [] .leaf .leaf) .leaf) .leaf) .leaf)) .leaf))) (.alt 8 [0, 1, 2, 4, 5, 6] [] (.alt 3 [4, 5, 6] [] (.alt 7 [] [] (.alt 9 [0, 1, 2, 4, 5, 6] [] (.alt 10 [] [] (.alt 11 [] [] .leaf .leaf) .leaf) .leaf) (.alt 9 [0, 1, 2, 4, 5, 6] [] (.alt 7 [] [] (.alt 10 [] [] (.alt 11 [] [] .leaf .leaf) .leaf) .leaf) .leaf)) (.alt 9 [0, 1, 2, 4, 5, 6] [] (.alt 3 [4, 5, 6] [] (.alt 7 [] [] (.alt 10 [] [] (.alt 11 [] [] .leaf .leaf) .leaf) .leaf) .leaf) .leaf)) (.alt 9 [0, 1, 2, 4, 5, 6] [] (.alt 3 [4, 5, 6] [] (.alt 7 [] [] (.alt 8 [0, 1, 2, 4, 5, 6] [] (.alt 10 [] [] (.alt 11 [] [] .leaf .leaf) .leaf) .leaf) (.alt 8 [0, 1, 2, 4, 5, 6] [] (.alt 7 [] [] (.alt 10 [] [] (.alt 11 [] [] .leaf .leaf) .leaf) .leaf) .leaf)) (.alt 8 [0, 1, 2, 4, 5, 6] [] (.alt 3 [4, 5, 6] [] (.alt 7 [] [] (.alt 10 [] [] (.alt 11 [] [] .leaf .leaf) .leaf) .leaf) .leaf) .leaf)) .leaf))) mixed (by decide) ?_
    ((try first | refine walk_aw env_ok (none) ?_ | refine walk_aw envR_ok (none) ?_); try simp -implicitDefEqProofs (maxSteps := 1000000) only [go_sem, ↓reduceIte, reduceCtorEq, Nat.reduceLT, Nat.reduceEqDiff, Nat.reduceBEq, Nat.reduceAdd, Nat.reduceMul, Nat.reduceSub, Nat.reduceLeDiff, Int.reduceNeg, Int.reduceLT, Int.reduceLE, Int.reduceEq, Int.reduceAdd, Int.reduceToNat])
    repeat' (first | (refine And.intro ?_ ?_) | (refine Take_spec (s := ⟨b, 0, 0⟩) hok hb (app_get ..) ?_; ((try first | refine walk_aw env_ok (none) ?_ | refine walk_aw envR_ok (none) ?_); try simp -implicitDefEqProofs (maxSteps := 1000000) only [go_sem, ↓reduceIte, reduceCtorEq, Nat.reduceLT, Nat.reduceEqDiff, Nat.reduceBEq, Nat.reduceAdd, Nat.reduceMul, Nat.reduceSub, Nat.reduceLeDiff, Int.reduceNeg, Int.reduceLT, Int.reduceLE, Int.reduceEq, Int.reduceAdd, Int.reduceToNat])) | (refine rTake_spec (s := ⟨b, 0, 0⟩) hok hb (app_get ..) ?_; ((try first | refine walk_aw env_ok (none) ?_ | refine walk_aw envR_ok (none) ?_); try simp -implicitDefEqProofs (maxSteps := 1000000) only [go_sem, ↓reduceIte, reduceCtorEq, Nat.reduceLT, Nat.reduceEqDiff, Nat.reduceBEq, Nat.reduceAdd, Nat.reduceMul, Nat.reduceSub, Nat.reduceLeDiff, Int.reduceNeg, Int.reduceLT, Int.reduceLE, Int.reduceEq, Int.reduceAdd, Int.reduceToNat])))
  · rintro ⟨σ, G⟩ ⟨s4, s7, s8, s910, g0, g1, g2, gt⟩
    simp only at s4 s7 s8 s910 g0 g1 g2 gt
    split at s910
    · rename_i x1 x2 i9 i10 s9 s10
      obtain ⟨g9, g10⟩ := s910
      ((try first | refine walk_aw env_ok (none) ?_ | refine walk_aw envR_ok (none) ?_); try simp -implicitDefEqProofs (maxSteps := 1000000) only [go_sem, ↓reduceIte, reduceCtorEq, Nat.reduceLT, Nat.reduceEqDiff, Nat.reduceBEq, Nat.reduceAdd, Nat.reduceMul, Nat.reduceSub, Nat.reduceLeDiff, Int.reduceNeg, Int.reduceLT, Int.reduceLE, Int.reduceEq, Int.reduceAdd, Int.reduceToNat])
      refine AW.chain env_ok [0, 0, 3, 7, 15, 31, 15, 79, 207, 463, 1023, 2047, 4095, 8191, 16383, 32767, 65535, 131071, 262143, 524287, 1048575, 524287, 2621439, 6815743, 15204351, 33554431, 67108863, 134217727, 268435455, 536870911, 1073741823, 2147483647, 536870911, 4831838207, 17179869183, 34359738367, 68719476735, 137438953471, 274877906943, 549755813887, 1099511627775] [0, 1, 2, 3, 4, 5, 6, 7, 8, 9, 10, 11, 12, 13, 14, 15, 16, 17, 18, 19, 20, 21, 22, 23, 24, 25, 26, 27, 28, 29, 30, 31, 32, 33, 34, 35, 36, 37, 38, 39] [(40, [], [])] mixed (by decide) ?_
      ((try first | refine walk_aw env_ok (none) ?_ | refine walk_aw envR_ok (none) ?_); try simp -implicitDefEqProofs (maxSteps := 1000000) only [go_sem, ↓reduceIte, reduceCtorEq, Nat.reduceLT, Nat.reduceEqDiff, Nat.reduceBEq, Nat.reduceAdd, Nat.reduceMul, Nat.reduceSub, Nat.reduceLeDiff, Int.reduceNeg, Int.reduceLT, Int.reduceLE, Int.reduceEq, Int.reduceAdd, Int.reduceToNat, s4, s7, s8, s9, s10, g0, g1, g2, g9, g10])
      refine QC.mk (rSameV_spec ⟨rfl, rfl⟩) ?_
      rw [rawSame_self]
      ((try first | refine walk_aw env_ok (none) ?_ | refine walk_aw envR_ok (none) ?_); try simp -implicitDefEqProofs (maxSteps := 1000000) only [go_sem, ↓reduceIte, reduceCtorEq, Nat.reduceLT, Nat.reduceEqDiff, Nat.reduceBEq, Nat.reduceAdd, Nat.reduceMul, Nat.reduceSub, Nat.reduceLeDiff, Int.reduceNeg, Int.reduceLT, Int.reduceLE, Int.reduceEq, Int.reduceAdd, Int.reduceToNat, s4, s7, s8, s9, s10, g0, g1, g2, g9, g10])
      refine QC.mk (Err_spec g1 ⟨rfl, rfl⟩) ?_
      by_cases e : (rawTake ⟨b, 0, 0⟩ f i w).2.err = 0
      · ((try first | refine walk_aw env_ok (none) ?_ | refine walk_aw envR_ok (none) ?_); try simp -implicitDefEqProofs (maxSteps := 1000000) only [go_sem, ↓reduceIte, reduceCtorEq, Nat.reduceLT, Nat.reduceEqDiff, Nat.reduceBEq, Nat.reduceAdd, Nat.reduceMul, Nat.reduceSub, Nat.reduceLeDiff, Int.reduceNeg, Int.reduceLT, Int.reduceLE, Int.reduceEq, Int.reduceAdd, Int.reduceToNat, s4, s7, s8, s9, s10, g0, g1, g2, g9, g10, e])
        refine QC.mk (At_spec g1 ⟨rfl, rfl⟩) ?_
        ((try first | refine walk_aw env_ok (none) ?_ | refine walk_aw envR_ok (none) ?_); try simp -implicitDefEqProofs (maxSteps := 1000000) only [go_sem, ↓reduceIte, reduceCtorEq, Nat.reduceLT, Nat.reduceEqDiff, Nat.reduceBEq, Nat.reduceAdd, Nat.reduceMul, Nat.reduceSub, Nat.reduceLeDiff, Int.reduceNeg, Int.reduceLT, Int.reduceLE, Int.reduceEq, Int.reduceAdd, Int.reduceToNat, s4, s7, s8, s9, s10, g0, g1, g2, g9, g10, e])
        refine QC.mk (Kind_spec ⟨rfl, rfl⟩) ?_
        ((try first | refine walk_aw env_ok (none) ?_ | refine walk_aw envR_ok (none) ?_); try simp -implicitDefEqProofs (maxSteps := 1000000) only [go_sem, ↓reduceIte, reduceCtorEq, Nat.reduceLT, Nat.reduceEqDiff, Nat.reduceBEq, Nat.reduceAdd, Nat.reduceMul, Nat.reduceSub, Nat.reduceLeDiff, Int.reduceNeg, Int.reduceLT, Int.reduceLE, Int.reduceEq, Int.reduceAdd, Int.reduceToNat, s4, s7, s8, s9, s10, g0, g1, g2, g9, g10, e])
        refine QC.mk (rKind_spec ⟨rfl, rfl⟩) ?_
        ((try first | refine walk_aw env_ok (none) ?_ | refine walk_aw envR_ok (none) ?_); try simp -implicitDefEqProofs (maxSteps := 1000000) only [go_sem, ↓reduceIte, reduceCtorEq, Nat.reduceLT, Nat.reduceEqDiff, Nat.reduceBEq, Nat.reduceAdd, Nat.reduceMul, Nat.reduceSub, Nat.reduceLeDiff, Int.reduceNeg, Int.reduceLT, Int.reduceLE, Int.reduceEq, Int.reduceAdd, Int.reduceToNat, s4, s7, s8, s9, s10, g0, g1, g2, g9, g10, e])
        refine QC.mk (works14_spec ⟨rfl, rfl⟩) ?_
        ((try first | refine walk_aw env_ok (none) ?_ | refine walk_aw envR_ok (none) ?_); try simp -implicitDefEqProofs (maxSteps := 1000000) only [go_sem, ↓reduceIte, reduceCtorEq, Nat.reduceLT, Nat.reduceEqDiff, Nat.reduceBEq, Nat.reduceAdd, Nat.reduceMul, Nat.reduceSub, Nat.reduceLeDiff, Int.reduceNeg, Int.reduceLT, Int.reduceLE, Int.reduceEq, Int.reduceAdd, Int.reduceToNat])
        exact .inr (by rw [gt]; exact h)
      · ((try first | refine walk_aw env_ok (none) ?_ | refine walk_aw envR_ok (none) ?_); try simp -implicitDefEqProofs (maxSteps := 1000000) only [go_sem, ↓reduceIte, reduceCtorEq, Nat.reduceLT, Nat.reduceEqDiff, Nat.reduceBEq, Nat.reduceAdd, Nat.reduceMul, Nat.reduceSub, Nat.reduceLeDiff, Int.reduceNeg, Int.reduceLT, Int.reduceLE, Int.reduceEq, Int.reduceAdd, Int.reduceToNat, s4, s7, s8, s9, s10, g0, g1, g2, g9, g10, e])
        refine QC.mk (Kind_spec ⟨rfl, rfl⟩) ?_
        ((try first | refine walk_aw env_ok (none) ?_ | refine walk_aw envR_ok (none) ?_); try simp -implicitDefEqProofs (maxSteps := 1000000) only [go_sem, ↓reduceIte, reduceCtorEq, Nat.reduceLT, Nat.reduceEqDiff, Nat.reduceBEq, Nat.reduceAdd, Nat.reduceMul, Nat.reduceSub, Nat.reduceLeDiff, Int.reduceNeg, Int.reduceLT, Int.reduceLE, Int.reduceEq, Int.reduceAdd, Int.reduceToNat, s4, s7, s8, s9, s10, g0, g1, g2, g9, g10, e])
        refine QC.mk (rKind_spec ⟨rfl, rfl⟩) ?_
        ((try first | refine walk_aw env_ok (none) ?_ | refine walk_aw envR_ok (none) ?_); try simp -implicitDefEqProofs (maxSteps := 1000000) only [go_sem, ↓reduceIte, reduceCtorEq, Nat.reduceLT, Nat.reduceEqDiff, Nat.reduceBEq, Nat.reduceAdd, Nat.reduceMul, Nat.reduceSub, Nat.reduceLeDiff, Int.reduceNeg, Int.reduceLT, Int.reduceLE, Int.reduceEq, Int.reduceAdd, Int.reduceToNat, s4, s7, s8, s9, s10, g0, g1, g2, g9, g10, e])
        refine QC.mk (works14_spec ⟨rfl, rfl⟩) ?_
        ((try first | refine walk_aw env_ok (none) ?_ | refine walk_aw envR_ok (none) ?_); try simp -implicitDefEqProofs (maxSteps := 1000000) only [go_sem, ↓reduceIte, reduceCtorEq, Nat.reduceLT, Nat.reduceEqDiff, Nat.reduceBEq, Nat.reduceAdd, Nat.reduceMul, Nat.reduceSub, Nat.reduceLeDiff, Int.reduceNeg, Int.reduceLT, Int.reduceLE, Int.reduceEq, Int.reduceAdd, Int.reduceToNat])
        exact .inr (by rw [gt]; exact h)
    · exact s910.elim
end
end Go.Ab
end

section
/- The law RawWidths answers true. -/
namespace Go.Ab
open V Go.Proofs
set_option maxHeartbeats 8000000
set_option maxRecDepth 10000
set_option linter.unusedSimpArgs false
set_option linter.unusedVariables false

theorem offset_plain : ∀ k : Nat, k < 45 → sizeL.getD k 0 = -2 → k ≠ 13 ∧ k ≠ 30 ∧ k ≠ 33 ∧ k ≠ 25 ∧ kindL.getD k 0 ≠ 5 ∧ kindL.getD k 0 ≠ 9 ∧ kindL.getD k 0 ≠ 10 := by decide
theorem put_more {r : RV} (h0 : kd r.form ≠ 0) (h : szf r.form = -2) : (rawPut r true).length = (rawPut r false).length + 4 := by
  obtain ⟨k, hk, hf⟩ := kd_in h0
  rw [hf, szf_nat hk] at h
  obtain ⟨c1, c2, c3, c4, c5, c6, c7⟩ := offset_plain k hk h
  have hz : szf r.form = -2 := by rw [hf, szf_nat hk]; exact h
  have e : ∀ w, rawPut r w = numB r.u (-2) w := by
    intro w
    unfold rawPut
    rw [← hz, hf, kd_nat hk, if_neg (by omega), if_neg c5, if_neg (by omega), if_neg (by omega), if_pos (by omega)]
  rw [e, e]
  unfold numB zz
  simp only [leB_length]
  rfl
theorem rawPut_len {x : RV} {w : Bool} (hR : rawRight x w = true) (hu : x.u < 18446744073709551616) (hs : -9223372036854775808 ≤ x.s ∧ x.s < 9223372036854775808) (hb : x.b.length ≤ 2000) : (rawPut x w).length ≤ 4000 := by
  have hts : kd x.form = 5 → x.t.size ≤ 200 := by
    intro e; have := right_text hR e
    rw [textOk, Bool.and_eq_true, decide_eq_true_eq, decide_eq_true_eq] at this; exact this.2
  unfold rawPut
  split
  · have := putS_le hs; omega
  · split
    · rename_i e; have := hts e; rw [List.length_append, txt_len]; simp only [List.length_cons, List.length_nil]; omega
    · split
      · omega
      · split
        · have := numB_len (n := x.b.length) (by omega) (szf x.form) w; rw [List.length_append]; omega
        · split
          · have := numB_len hu (szf x.form) w; omega
          · simp
section
variable {H : Heap} {Q : A → Heap → Prop}
theorem RawWidths_spec {x : RV} (hu : x.u < 18446744073709551616) (hs : -9223372036854775808 ≤ x.s ∧ x.s < 9223372036854775808) (ht : x.t.size ≤ 9223372036854775807) (h : Q (.bool true) H) :
    AC Tryd.prog 6 [.agg x.cells] H Q := by
  refine AC.enter (E := env Tryd.prog 87 (fun _ => .copy) (fun t => t == 18 || t == 23)) env_ok Tryd.func6 rfl rfl rfl (by simp only [List.length_cons, List.length_nil]; exact of_decide_eq_true rfl) ?_
  ((try first | refine walk_aw env_ok (none) ?_ | refine walk_aw envR_ok (none) ?_); try simp -implicitDefEqProofs (maxSteps := 1000000) only [go_sem, ↓reduceIte, reduceCtorEq, Nat.reduceLT, Nat.reduceEqDiff, Nat.reduceBEq, Nat.reduceAdd, Nat.reduceMul, Nat.reduceSub, Nat.reduceLeDiff, Int.reduceNeg, Int.reduceLT, Int.reduceLE, Int.reduceEq, Int.reduceAdd, Int.reduceToNat])
  refine works14_spec ?_
  by_cases c1 : (x.b.length : Int) > 2000
  · ((try first | refine walk_aw env_ok (none) ?_ | refine walk_aw envR_ok (none) ?_); try simp -implicitDefEqProofs (maxSteps := 1000000) only [go_sem, ↓reduceIte, reduceCtorEq, Nat.reduceLT, Nat.reduceEqDiff, Nat.reduceBEq, Nat.reduceAdd, Nat.reduceMul, Nat.reduceSub, Nat.reduceLeDiff, Int.reduceNeg, Int.reduceLT, Int.reduceLE, Int.reduceEq, Int.reduceAdd, Int.reduceToNat, c1])
    exact .inr h
  have hx : x.In := ⟨hu, hs, by omega, ht⟩
  ((try first | refine walk_aw env_ok (none) ?_ | refine walk_aw envR_ok (none) ?_); try simp -implicitDefEqProofs (maxSteps := 1000000) only [go_sem, ↓reduceIte, reduceCtorEq, Nat.reduceLT, Nat.reduceEqDiff, Nat.reduceBEq, Nat.reduceAdd, Nat.reduceMul, Nat.reduceSub, Nat.reduceLeDiff, Int.reduceNeg, Int.reduceLT, Int.reduceLE, Int.reduceEq, Int.reduceAdd, Int.reduceToNat, c1])
  cases hR : rawRight x false with
  | false =>
    refine Put_spec (b := []) (k := 0) (by decide) (by decide) hx (by omega) (fun _ => ?_) (fun hc => absurd hc (by rw [hR]; decide))
    ((try first | refine walk_aw env_ok (none) ?_ | refine walk_aw envR_ok (none) ?_); try simp -implicitDefEqProofs (maxSteps := 1000000) only [go_sem, ↓reduceIte, reduceCtorEq, Nat.reduceLT, Nat.reduceEqDiff, Nat.reduceBEq, Nat.reduceAdd, Nat.reduceMul, Nat.reduceSub, Nat.reduceLeDiff, Int.reduceNeg, Int.reduceLT, Int.reduceLE, Int.reduceEq, Int.reduceAdd, Int.reduceToNat])
    cases hR1 : rawRight x true with
    | false =>
      refine Put_spec (b := []) (k := 0) (by decide) (by decide) hx (by omega) (fun _ => ?_) (fun hc => absurd hc (by rw [hR1]; decide))
      ((try first | refine walk_aw env_ok (none) ?_ | refine walk_aw envR_ok (none) ?_); try simp -implicitDefEqProofs (maxSteps := 1000000) only [go_sem, ↓reduceIte, reduceCtorEq, Nat.reduceLT, Nat.reduceEqDiff, Nat.reduceBEq, Nat.reduceAdd, Nat.reduceMul, Nat.reduceSub, Nat.reduceLeDiff, Int.reduceNeg, Int.reduceLT, Int.reduceLE, Int.reduceEq, Int.reduceAdd, Int.reduceToNat])
      exact .inr h
    | true =>
      refine Put_spec (b := []) (k := 0) (by decide) (by decide) hx (by omega) (fun hc => absurd hc (by rw [hR1]; decide)) (fun _ => ?_)
      ((try first | refine walk_aw env_ok (none) ?_ | refine walk_aw envR_ok (none) ?_); try simp -implicitDefEqProofs (maxSteps := 1000000) only [go_sem, ↓reduceIte, reduceCtorEq, Nat.reduceLT, Nat.reduceEqDiff, Nat.reduceBEq, Nat.reduceAdd, Nat.reduceMul, Nat.reduceSub, Nat.reduceLeDiff, Int.reduceNeg, Int.reduceLT, Int.reduceLE, Int.reduceEq, Int.reduceAdd, Int.reduceToNat])
      exact .inr h
  | true =>
    have hR1 := right_wide hR
    refine Put_spec (b := []) (k := 0) (by decide) (by decide) hx (by omega) (fun hc => absurd hc (by rw [hR]; decide)) (fun _ => ?_)
    rw [List.nil_append]
    ((try first | refine walk_aw env_ok (none) ?_ | refine walk_aw envR_ok (none) ?_); try simp -implicitDefEqProofs (maxSteps := 1000000) only [go_sem, ↓reduceIte, reduceCtorEq, Nat.reduceLT, Nat.reduceEqDiff, Nat.reduceBEq, Nat.reduceAdd, Nat.reduceMul, Nat.reduceSub, Nat.reduceLeDiff, Int.reduceNeg, Int.reduceLT, Int.reduceLE, Int.reduceEq, Int.reduceAdd, Int.reduceToNat])
    refine Put_spec (b := []) (k := 0) (by decide) (by decide) hx (by omega) (fun hc => absurd hc (by rw [hR1]; decide)) (fun _ => ?_)
    rw [List.nil_append]
    have hp0 := rawPut_len hR hu hs (by omega)
    have hp1 := rawPut_len hR1 hu hs (by omega)
    have tb0 := take_back (tail := []) hR hu hs
    have tb1 := take_back (tail := []) hR1 hu hs
    rw [List.append_nil] at tb0 tb1
    have hok0 : (CS.mk (rawPut x false) 0 0).Ok := ⟨by simp, by simp only; omega, by simp, by simp⟩
    have hok1 : (CS.mk (rawPut x true) 0 0).Ok := ⟨by simp, by simp only; omega, by simp, by simp⟩
    ((try first | refine walk_aw env_ok (none) ?_ | refine walk_aw envR_ok (none) ?_); try simp -implicitDefEqProofs (maxSteps := 1000000) only [go_sem, ↓reduceIte, reduceCtorEq, Nat.reduceLT, Nat.reduceEqDiff, Nat.reduceBEq, Nat.reduceAdd, Nat.reduceMul, Nat.reduceSub, Nat.reduceLeDiff, Int.reduceNeg, Int.reduceLT, Int.reduceLE, Int.reduceEq, Int.reduceAdd, Int.reduceToNat])
    refine AW.post (J := fun st => st.σ 1 = .ptr (some (H.length, 0)) ∧ st.σ 3 = .sl (bA (rawPut x false)) none () ∧ st.σ 5 = .sl (bA (rawPut x true)) none () ∧ st.σ 6 = .int .i64 0 ∧
      (match st.σ 7, st.σ 8 with
        | .ptr (some (i7, 0)), .ptr (some (i8, 0)) => st.H[i7]? = some (.cells x.cells) ∧ st.H[i8]? = some (.cells x.cells)
        | _, _ => False) ∧
      st.H[H.length]? = some (.cells x.cells) ∧ st.H.take H.length = H) ?_ ?_
    · refine AW.tree env_ok [0, 1, 0, 4, 0, 16, 60, 127, 0, 511, 0, 1024, 0, 4096, 15360, 32767, 0, 0, 262143, 524287] [0, 2, 3, 4, 5, 6, 8, 10, 11, 12, 13, 14] [1, 7, 9, 15, 16, 17, 18, 19] (.alt 1 [2, 3, 4, 5, 6, 8, 10, 11, 12, 13, 14] [] (.alt 7 [8, 10, 11, 12, 13, 14] [] (.alt 9 [10, 11, 12, 13, 14] [] (.alt 15 [] [] (.alt 16 [0, 2, 3, 4, 5, 6, 8, 10, 11, 12, 13, 14] [] (.alt 17 [0, 2, 3, 4, 5, 6, 8, 10, 11, 12, 13, 14] [] (.alt 18 [] [] (.alt 19 [] [] .leaf .leaf) .leaf) .leaf) (.alt 17 [0, 2, 3, 4, 5, 6, 8, 10, 11, 12, 13, 14] [] (.alt 16 [0, 2, 3, 4, 5, 6, 8, 10, 11, 12, 13, 14] [] (.alt 18 [] [] (.alt 19 [] [] .leaf .leaf) .leaf) .leaf) .leaf)) (.alt 16 [0, 2, 3, 4, 5, 6, 8, 10, 11, 12, 13, 14] [] (.alt 15 [] [] (.alt 17 [0, 2, 3, 4, 5, 6, 8, 10, 11, 12, 13, 14] [] (.alt 18 [] [] (.alt 19 [] [] .leaf .leaf) .leaf) .leaf) (.alt 17 [0, 2, 3, 4, 5, 6, 8, 10, 11, 12, 13, 14] [] (.alt 15 [] [] (.alt 18 [] [] (.alt 19 [] [] .leaf .leaf) .leaf) .leaf) .leaf)) (.alt 17 [0, 2, 3, 4, 5, 6, 8, 10, 11, 12, 13, 14] [] (.alt 15 [] [] (.alt 16 [0, 2, 3, 4, 5, 6, 8, 10, 11, 12, 13, 14] [] (.alt 18 [] [] (.alt 19 [] [] .leaf .leaf) .leaf) .leaf) (.alt 16 [0, 2, 3, 4, 5, 6, 8, 10, 11, 12, 13, 14] [] (.alt 15 [] [] (.alt 18 [] [] (.alt 19 [] [] .leaf .leaf) .leaf) .leaf) .leaf)) .leaf))) (.alt 16 [0, 2, 3, 4, 5, 6, 8, 10, 11, 12, 13, 14] [] (.alt 9 [10, 11, 12, 13, 14] [] (.alt 15 [] [] (.alt 17 [0, 2, 3, 4, 5, 6, 8, 10, 11, 12, 13, 14] [] (.alt 18 [] [] (.alt 19 [] [] .leaf .leaf) .leaf) .leaf) (.alt 17 [0, 2, 3, 4, 5, 6, 8, 10, 11, 12, 13, 14] [] (.alt 15 [] [] (.alt 18 [] [] (.alt 19 [] [] .leaf .leaf) .leaf) .leaf) .leaf)) (.alt 17 [0, 2, 3, 4, 5, 6, 8, 10, 11, 12, 13, 14] [] (.alt 9 [10, 11, 12, 13, 14] [] (.alt 15 [] [] (.alt 18 [] [] (.alt 19 [] [] .leaf .leaf) .leaf) .leaf) .leaf) .leaf)) (.alt 17 [0, 2, 3, 4, 5, 6, 8, 10, 11, 12, 13, 14] [] (.alt 9 [10, 11, 12, 13, 14] [] (.alt 15 [] [] (.alt 16 [0, 2, 3, 4, 5, 6, 8, 10, 11, 12, 13, 14] [] (.alt 18 [] [] (.alt 19 [] [] .leaf .leaf) .leaf) .leaf) (.alt 16 [0, 2, 3, 4, 5, 6, 8, 10, 11, 12, 13, 14] [] (.alt 15 [] [] (.alt 18 [] [] (.alt 19 [] [] .leaf .leaf) .leaf) .leaf) .leaf)) (.alt 16 [0, 2, 3, 4, 5, 6, 8, 10, 11, 12, 13, 14] [] (.alt 9 [10, 11, 12, 13, 14] [] (.alt 15 [] [] (.alt 18 [] [] (.alt 19 [] [] .leaf .leaf) .leaf) .leaf) .leaf) .leaf)) .leaf))) (.alt 16 [0, 2, 3, 4, 5, 6, 8, 10, 11, 12, 13, 14] [] (.alt 7 [8, 10, 11, 12, 13, 14] [] (.alt 9 [10, 11, 12, 13, 14] [] (.alt 15 [] [] (.alt 17 [0, 2, 3, 4, 5, 6, 8, 10, 11, 12, 13, 14] [] (.alt 18 [] [] (.alt 19 [] [] .leaf .leaf) .leaf) .leaf) (.alt 17 [0, 2, 3, 4, 5, 6, 8, 10, 11, 12, 13, 14] [] (.alt 15 [] [] (.alt 18 [] [] (.alt 19 [] [] .leaf .leaf) .leaf) .leaf) .leaf)) (.alt 17 [0, 2, 3, 4, 5, 6, 8, 10, 11, 12, 13, 14] [] (.alt 9 [10, 11, 12, 13, 14] [] (.alt 15 [] [] (.alt 18 [] [] (.alt 19 [] [] .leaf .leaf) .leaf) .leaf) .leaf) .leaf)) (.alt 17 [0, 2, 3, 4, 5, 6, 8, 10, 11, 12, 13, 14] [] (.alt 7 [8, 10, 11, 12, 13, 14] [] (.alt 9 [10, 11, 12, 13, 14] [] (.alt 15 [] [] (.alt 18 [] [] (.alt 19 [] [] .leaf .leaf) .leaf) .leaf) .leaf) .leaf) .leaf)) (.alt 17 [0, 2, 3, 4, 5, 6, 8, 10, 11, 12, 13, 14] [] (.alt 7 [8, 10, 11, 12, 13, 14] [] (.alt 9 [10, 11, 12, 13, 14] [] (.alt 15 [] [] (.alt 16 [0, 2, 3, 4, 5, 6, 8, 10, 11, 12, 13, 14] [] (.alt 18 [] [] (.alt 19 [] [] .leaf .leaf) .leaf) .leaf) (.alt 16 [0, 2, 3, 4, 5, 6, 8, 10, 11, 12, 13, 14] [] (.alt 15 [] [] (.alt 18 [] [] (.alt 19 [] [] .leaf .leaf) .leaf) .leaf) .leaf)) (.alt 16 [0, 2, 3, 4, 5, 6, 8, 10, 11, 12, 13, 14] [] (.alt 9 [10, 11, 12, 13, 14] [] (.alt 15 [] [] (.alt 18 [] [] (.alt 19 [] [] .leaf .leaf) .leaf) .leaf) .leaf) .leaf)) (.alt 16 [0, 2, 3, 4, 5, 6, 8, 10, 11, 12, 13, 14] [] (.alt 7 [8, 10, 11, 12, 13, 14] [] (.alt 9 [10, 11, 12, 13, 14] [] (.alt 15 [] [] (.alt 18 [] [] (.alt 19 [] [] .leaf .leaf) .leaf) .leaf) .leaf) .leaf) .leaf)) .leaf))) (.alt 16 [0, 2, 3, 4, 5, 6, 8, 10, 11, 12, 13, 14] [] (.alt 1 [2, 3, 4, 5, 6, 8, 10, 11, 12, 13, 14] [] (.alt 7 [8, 10, 11, 12, 13, 14] [] (.alt 9 [10, 11, 12, 13, 14] [] (.alt 15 [] [] (.alt 17 [0, 2, 3, 4, 5, 6, 8, 10, 11, 12, 13, 14] [] (.alt 18 [] [] (.alt 19 [] [] .leaf .leaf) .leaf) .leaf) (.alt 17 [0, 2, 3, 4, 5, 6, 8, 10, 11, 12, 13, 14] [] (.alt 15 [] [] (.alt 18 [] [] (.alt 19 [] [] .leaf .leaf) .leaf) .leaf) .leaf)) (.alt 17 [0, 2, 3, 4, 5, 6, 8, 10, 11, 12, 13, 14] [] (.alt 9 [10, 11, 12, 13, 14] [] (.alt 15 [] [] (.alt 18 [] [] (.alt 19 [] [] .leaf .leaf) .leaf) .leaf) .leaf) .leaf)) (.alt 17 [0, 2, 3, 4, 5, 6, 8, 10, 11, 12, 13, 14] [] (.alt 7 [8, 10, 11, 12, 13, 14] [] (.alt 9 [10, 11, 12, 13, 14] [] (.alt 15 [] [] (.alt 18 [] [] (.alt 19 [] [] .leaf .leaf) .leaf) .leaf) .leaf) .leaf) .leaf)) (.alt 17 [0, 2, 3, 4, 5, 6, 8, 10, 11, 12, 13, 14] [] (.alt 1 [2, 3, 4, 5, 6, 8, 10, 11, 12, 13, 14] [] (.alt 7 [8, 10, 11, 12, 13, 14] [] (.alt 9 [10, 11, 12, 13, 14] [] (.alt 15 [] [] (.alt 18 [] [] (.alt 19 [] [] .leaf .leaf) .leaf) .leaf) .leaf) .leaf) .leaf) .leaf)) (.alt 17 [0, 2, 3, 4, 5, 6, 8, 10, 11, 12, 13, 14] [] (.alt 1 [2, 3, 4, 5, 6, 8, 10, 11, 12, 13, 14] [] (.alt 7 [8, 10, 11, 12, 13, 14] [] (.alt 9 [10, 11, 12, 13, 14] [] (.alt 15 [] [] (.alt 16 [0, 2, 3, 4, 5, 6, 8, 10, 11, 12, 13, 14] [] (.alt 18 [] [] (.alt 19 [] [] .leaf .leaf) .leaf) .leaf) (.alt 16 [0, 2, 3, 4, 5, 6, 8, 10, 11, 12, 13, 14] [] (.alt 15 [] [] (.alt 18 [] [] (.alt 19 [] [] .leaf .leaf) .leaf) .leaf) .leaf)) (.alt 16 [0, 2, 3, 4, 5, 6, 8, 10, 11, 12, 13, 14] [] (.alt 9 [10, 11, 12, 13, 14] [] (.alt 15 [] [] (.alt 18 [] [] (.alt 19 [] [] .leaf .leaf) .leaf) .leaf) .leaf) .leaf)) (.alt 16 [0, 2, 3, 4, 5, 6, 8, 10, 11, 12, 13, 14] [] (.alt 7 [8, 10, 11, 12, 13, 14] [] (.alt 9 [10, 11, 12, 13, 14] [] (.alt 15 [] [] (.alt 18 [] [] (.alt 19 [] [] .leaf .leaf) .leaf) .leaf) .leaf) .leaf) .leaf)) (.alt 16 [0, 2, 3, 4, 5, 6, 8, 10, 11, 12, 13, 14] [] (.alt 1 [2, 3, 4, 5, 6, 8, 10, 11, 12, 13, 14] [] (.alt 7 [8, 10, 11, 12, 13, 14] [] (.alt 9 [10, 11, 12, 13, 14] [] (.alt 15 [] [] (.alt 18 [] [] (.alt 19 [] [] .leaf .leaf) .leaf) .leaf) .leaf) .leaf) .leaf) .leaf)) .leaf))) mixed (by decide) ?_
      ((try first | refine walk_aw env_ok (none) ?_ | refine walk_aw envR_ok (none) ?_); try simp -implicitDefEqProofs (maxSteps := 1000000) only [go_sem, ↓reduceIte, reduceCtorEq, Nat.reduceLT, Nat.reduceEqDiff, Nat.reduceBEq, Nat.reduceAdd, Nat.reduceMul, Nat.reduceSub, Nat.reduceLeDiff, Int.reduceNeg, Int.reduceLT, Int.reduceLE, Int.reduceEq, Int.reduceAdd, Int.reduceToNat])
      repeat' (first | (refine And.intro ?_ ?_) | (refine New_spec (by omega) ?_; ((try first | refine walk_aw env_ok (none) ?_ | refine walk_aw envR_ok (none) ?_); try simp -implicitDefEqProofs (maxSteps := 1000000) only [go_sem, ↓reduceIte, reduceCtorEq, Nat.reduceLT, Nat.reduceEqDiff, Nat.reduceBEq, Nat.reduceAdd, Nat.reduceMul, Nat.reduceSub, Nat.reduceLeDiff, Int.reduceNeg, Int.reduceLT, Int.reduceLE, Int.reduceEq, Int.reduceAdd, Int.reduceToNat])) | (refine Take_spec (s := ⟨rawPut x false, 0, 0⟩) hok0 (by simp only; omega) (by first | exact app_get0 .. | exact app_get ..) ?_; rw [tb0]; ((try first | refine walk_aw env_ok (none) ?_ | refine walk_aw envR_ok (none) ?_); try simp -implicitDefEqProofs (maxSteps := 1000000) only [go_sem, ↓reduceIte, reduceCtorEq, Nat.reduceLT, Nat.reduceEqDiff, Nat.reduceBEq, Nat.reduceAdd, Nat.reduceMul, Nat.reduceSub, Nat.reduceLeDiff, Int.reduceNeg, Int.reduceLT, Int.reduceLE, Int.reduceEq, Int.reduceAdd, Int.reduceToNat])) | (refine Take_spec (s := ⟨rawPut x true, 0, 0⟩) hok1 (by simp only; omega) (by first | exact app_get0 .. | exact app_get ..) ?_; rw [tb1]; ((try first | refine walk_aw env_ok (none) ?_ | refine walk_aw envR_ok (none) ?_); try simp -implicitDefEqProofs (maxSteps := 1000000) only [go_sem, ↓reduceIte, reduceCtorEq, Nat.reduceLT, Nat.reduceEqDiff, Nat.reduceBEq, Nat.reduceAdd, Nat.reduceMul, Nat.reduceSub, Nat.reduceLeDiff, Int.reduceNeg, Int.reduceLT, Int.reduceLE, Int.reduceEq, Int.reduceAdd, Int.reduceToNat])))
    · rintro ⟨σ, G⟩ ⟨s1, s3, s5, s6, s78, g0, gt⟩
      simp only at s1 s3 s5 s6 s78 g0 gt
      split at s78
      · rename_i x1 x2 i7 i8 s7 s8
        obtain ⟨g7, g8⟩ := s78
        ((try first | refine walk_aw env_ok (none) ?_ | refine walk_aw envR_ok (none) ?_); try simp -implicitDefEqProofs (maxSteps := 1000000) only [go_sem, ↓reduceIte, reduceCtorEq, Nat.reduceLT, Nat.reduceEqDiff, Nat.reduceBEq, Nat.reduceAdd, Nat.reduceMul, Nat.reduceSub, Nat.reduceLeDiff, Int.reduceNeg, Int.reduceLT, Int.reduceLE, Int.reduceEq, Int.reduceAdd, Int.reduceToNat, s1, s3, s5, s6, s7, s8, g0, g7, g8])
        refine Kind_spec ?_
        have z0 : ¬ (0:Int) > 0 := by omega
        have z4 : (4:Int) > 0 := by omega
        have p0 := (right_parts hR).1
        have hoi := offset_iff p0
        by_cases hz : szf x.form = -2
        · have hl := put_more p0 hz
          have hk := hoi.2 hz
          have hl2 : ((rawPut x true).length : Int) = (rawPut x false).length + 4 := by omega
          have hw : IntKind.i64.wrap ((rawPut x false).length + 4) = (rawPut x false).length + 4 := by simp [IntKind.wrap, IntKind.signed, IntKind.bits]; omega
          rcases hk with e | e | e | e
          all_goals
            ((try first | refine walk_aw env_ok (none) ?_ | refine walk_aw envR_ok (none) ?_); try simp -implicitDefEqProofs (maxSteps := 1000000) only [go_sem, ↓reduceIte, reduceCtorEq, Nat.reduceLT, Nat.reduceEqDiff, Nat.reduceBEq, Nat.reduceAdd, Nat.reduceMul, Nat.reduceSub, Nat.reduceLeDiff, Int.reduceNeg, Int.reduceLT, Int.reduceLE, Int.reduceEq, Int.reduceAdd, Int.reduceToNat, s1, s3, s5, s6, s7, s8, g0, g7, g8, e, hl2, hw, z4])
            refine Same_spec ?_
            rw [rawSame_self]
            ((try first | refine walk_aw env_ok (none) ?_ | refine walk_aw envR_ok (none) ?_); try simp -implicitDefEqProofs (maxSteps := 1000000) only [go_sem, ↓reduceIte, reduceCtorEq, Nat.reduceLT, Nat.reduceEqDiff, Nat.reduceBEq, Nat.reduceAdd, Nat.reduceMul, Nat.reduceSub, Nat.reduceLeDiff, Int.reduceNeg, Int.reduceLT, Int.reduceLE, Int.reduceEq, Int.reduceAdd, Int.reduceToNat, s1, s3, s5, s6, s7, s8, g0, g7, g8, e, hl2, hw, z4])
            refine Same_spec ?_
            rw [rawSame_self]
            ((try first | refine walk_aw env_ok (none) ?_ | refine walk_aw envR_ok (none) ?_); try simp -implicitDefEqProofs (maxSteps := 1000000) only [go_sem, ↓reduceIte, reduceCtorEq, Nat.reduceLT, Nat.reduceEqDiff, Nat.reduceBEq, Nat.reduceAdd, Nat.reduceMul, Nat.reduceSub, Nat.reduceLeDiff, Int.reduceNeg, Int.reduceLT, Int.reduceLE, Int.reduceEq, Int.reduceAdd, Int.reduceToNat, s1, s3, s5, s6, s7, s8, g0, g7, g8, e, hl2, hw, z4])
            exact .inr (by rw [gt]; exact h)
        · have hp := put_alike hz
          have e6 : kd x.form ≠ 6 := fun c => hz (hoi.1 (.inl c))
          have e7 : kd x.form ≠ 7 := fun c => hz (hoi.1 (.inr (.inl c)))
          have e12 : kd x.form ≠ 12 := fun c => hz (hoi.1 (.inr (.inr (.inl c))))
          have e14 : kd x.form ≠ 14 := fun c => hz (hoi.1 (.inr (.inr (.inr c))))
          rw [hp] at s5
          have hw : IntKind.i64.wrap ((rawPut x false).length + 0) = (rawPut x false).length := by simp [IntKind.wrap, IntKind.signed, IntKind.bits]; omega
          ((try first | refine walk_aw env_ok (none) ?_ | refine walk_aw envR_ok (none) ?_); try simp -implicitDefEqProofs (maxSteps := 1000000) only [go_sem, ↓reduceIte, reduceCtorEq, Nat.reduceLT, Nat.reduceEqDiff, Nat.reduceBEq, Nat.reduceAdd, Nat.reduceMul, Nat.reduceSub, Nat.reduceLeDiff, Int.reduceNeg, Int.reduceLT, Int.reduceLE, Int.reduceEq, Int.reduceAdd, Int.reduceToNat, s1, s3, s5, s6, s7, s8, g0, g7, g8, hw, z0, e6, e7, e12, e14])
          refine Same_spec ?_
          rw [rawSame_self]
          ((try first | refine walk_aw env_ok (none) ?_ | refine walk_aw envR_ok (none) ?_); try simp -implicitDefEqProofs (maxSteps := 1000000) only [go_sem, ↓reduceIte, reduceCtorEq, Nat.reduceLT, Nat.reduceEqDiff, Nat.reduceBEq, Nat.reduceAdd, Nat.reduceMul, Nat.reduceSub, Nat.reduceLeDiff, Int.reduceNeg, Int.reduceLT, Int.reduceLE, Int.reduceEq, Int.reduceAdd, Int.reduceToNat, s1, s3, s5, s6, s7, s8, g0, g7, g8, hw, z0, e6, e7, e12, e14])
          refine Same_spec ?_
          rw [rawSame_self]
          ((try first | refine walk_aw env_ok (none) ?_ | refine walk_aw envR_ok (none) ?_); try simp -implicitDefEqProofs (maxSteps := 1000000) only [go_sem, ↓reduceIte, reduceCtorEq, Nat.reduceLT, Nat.reduceEqDiff, Nat.reduceBEq, Nat.reduceAdd, Nat.reduceMul, Nat.reduceSub, Nat.reduceLeDiff, Int.reduceNeg, Int.reduceLT, Int.reduceLE, Int.reduceEq, Int.reduceAdd, Int.reduceToNat, s1, s3, s5, s6, s7, s8, g0, g7, g8, hw, z0, e6, e7, e12, e14, bytes_conv])
          exact .inr (by rw [gt]; exact h)
      · exact s78.elim
end
end Go.Ab
end

section
/- What the laws' arguments are; the tables. -/
namespace Go.Ab
open V Go.Proofs Go.Proofs.YtbdhocfaebchfaaDoor
set_option maxHeartbeats 4000000
set_option maxRecDepth 10000
set_option linter.unusedVariables false

theorem U2 : Tryd.prog.underlying 2 = some (.int .i64) := by kernel_rfl
theorem U3 : Tryd.prog.underlying 3 = some (.int .i64) := by kernel_rfl
theorem U4 : Tryd.prog.underlying 4 = some .bool := by kernel_rfl
theorem U5 : Tryd.prog.underlying 5 = some (.int .u8) := by kernel_rfl
theorem U9 : Tryd.prog.underlying 9 = some .string := by kernel_rfl
theorem U31 : Tryd.prog.underlying 31 = some (.int .u64) := by kernel_rfl
theorem U22 : Tryd.prog.underlying 22 = some (.slice 5) := by kernel_rfl
theorem S24 : fieldTypes Tryd.prog 24 = some [3, 3, 2] := by kernel_rfl
theorem S33 : fieldTypes Tryd.prog 33 = some [3, 31, 2, 22, 9] := by kernel_rfl
theorem G24 : aggT Tryd.prog 24 = true := by kernel_rfl
theorem G33 : aggT Tryd.prog 33 = true := by kernel_rfl
theorem G4 : aggT Tryd.prog 4 = false := by kernel_rfl
theorem G5 : aggT Tryd.prog 5 = false := by kernel_rfl
theorem G22 : aggT Tryd.prog 22 = false := by kernel_rfl

section
variable {n : Nat} {x : A} {c0 : List A}
theorem rc_bytes (h : FitsC Tryd.prog (n + 2) 22 c0) : ∃ l : List UInt8, c0 = [.sl (bA l) none ()] ∧ l.length ≤ maxLen := by
  obtain ⟨xs, rfl, hl, hx⟩ := fits_slice U22 h
  obtain ⟨l, rfl⟩ := map_of (f := byteA) (l := xs) fun x hm => by
    obtain ⟨i, hi, h1, h2⟩ := fits_int U5 (fits_one G5 (hx x hm))
    refine ⟨UInt8.ofNat i.toNat, ?_⟩
    rw [one_inj hi, byteA]
    have h3 : (0 : Int) ≤ i := h1
    have h4 : i ≤ 255 := h2
    rw [show ((UInt8.ofNat i.toNat).toNat : Int) = i by simp; omega]
  exact ⟨l, rfl, by simpa using hl⟩
theorem rd_bytes (h : FitsV Tryd.prog (n + 2) 22 x) : ∃ l : List UInt8, x = .sl (bA l) none () ∧ l.length ≤ maxLen := by
  obtain ⟨l, h1, h2⟩ := rc_bytes (fits_one G22 h)
  exact ⟨l, one_inj h1, h2⟩
theorem rd_bool (h : FitsV Tryd.prog (n + 1) 4 x) : ∃ b, x = .bool b := by
  obtain ⟨b, h1⟩ := fits_bool U4 (fits_one G4 h)
  exact ⟨b, one_inj h1⟩
theorem rd_spec (h : FitsV Tryd.prog (n + 2) 24 x) : ∃ a f i : Int, x = .agg [.int .i64 a, .int .i64 f, .int .i64 i] := by
  obtain ⟨cs, rfl, hc⟩ := fits_agg G24 h
  obtain ⟨ps, rfl, hl, hp⟩ := fits_struct S24 hc
  match ps, hl with
  | [p0, p1, p2], _ =>
    obtain ⟨a, rfl, _⟩ := fits_int U3 (hp 0 3 p0 rfl rfl)
    obtain ⟨f, rfl, _⟩ := fits_int U3 (hp 1 3 p1 rfl rfl)
    obtain ⟨i, rfl, _⟩ := fits_int U2 (hp 2 2 p2 rfl rfl)
    exact ⟨a, f, i, rfl⟩
theorem rd_raw (h : FitsV Tryd.prog (n + 4) 33 x) : ∃ r : RV, x = .agg r.cells ∧ r.u < 18446744073709551616 ∧ (-9223372036854775808 ≤ r.s ∧ r.s < 9223372036854775808) ∧ r.b.length ≤ maxLen ∧ r.t.size ≤ maxLen := by
  obtain ⟨cs, rfl, hc⟩ := fits_agg G33 h
  obtain ⟨ps, rfl, hl, hp⟩ := fits_struct S33 hc
  match ps, hl with
  | [p0, p1, p2, p3, p4], _ =>
    obtain ⟨f, rfl, _⟩ := fits_int U3 (hp 0 3 p0 rfl rfl)
    obtain ⟨u, rfl, u1, u2⟩ := fits_int U31 (hp 1 31 p1 rfl rfl)
    obtain ⟨s, rfl, s1, s2⟩ := fits_int U2 (hp 2 2 p2 rfl rfl)
    obtain ⟨l, rfl, hl⟩ := rc_bytes (hp 3 22 p3 rfl rfl)
    obtain ⟨t, rfl, ht⟩ := fits_str U9 (hp 4 9 p4 rfl rfl)
    have u3 : (0 : Int) ≤ u := u1
    have u4 : u ≤ 18446744073709551615 := u2
    have s3 : (-9223372036854775808 : Int) ≤ s := s1
    have s4 : s ≤ 9223372036854775807 := s2
    refine ⟨⟨f, u.toNat, s, l, t⟩, ?_, by simp only; omega, by simp only; omega, hl, ht⟩
    show _ = V.agg [_, V.int .u64 ((u.toNat : Nat) : Int), _, _, _]
    rw [show ((u.toNat : Nat) : Int) = u by omega]; rfl
end

/-! the tables -/
theorem gSizes : Tryd.prog.globalNamed "sindri/length.sizes" = some 1 := by kernel_rfl
theorem gForms : Tryd.prog.globalNamed "sindri/raw.forms" = some 0 := by kernel_rfl
theorem tSizes : (Tryd.prog.globals[1]?).map (·.type) = some 99 := by kernel_rfl
theorem tForms : (Tryd.prog.globals[0]?).map (·.type) = some 84 := by kernel_rfl
theorem pSizes : plainT Tryd.prog 3 99 = true := by kernel_rfl
theorem pForms : plainT Tryd.prog 3 84 = true := by kernel_rfl
theorem tabs_laid {W : World} (h : laidMetH Tryd.prog Rows.rawTakesRow.laid W) : TabsAt W := by
  rw [Go.MakeChecks.laidMetH_plain _ _ _ (by kernel_rfl)] at h
  obtain ⟨ps, ⟨g1, t1, cs1, f1, p1, q1, hg1, ht1, hv1, hd1, ⟨g0, t0, cs0, f0, p0, q0, hg0, ht0, hv0, hd0, _, _⟩, _⟩, _, _⟩ := h
  obtain rfl := Option.some.inj (gSizes.symm.trans hg1)
  obtain rfl := Option.some.inj (gForms.symm.trans hg0)
  obtain rfl := Option.some.inj (tSizes.symm.trans ht1)
  obtain rfl := Option.some.inj (tForms.symm.trans ht0)
  have e1 : cs1.toList = tabL1.map leafV := trod_flat 3 99 _ _ _ pSizes hd1
  have e0 : cs0.toList = tabL0.map leafV := trod_flat 3 84 _ _ _ pForms hd0
  intro b cs hb
  have hb' : (if b = 1 then some tabL1 else if b = 0 then some tabL0 else none) = some cs := hb
  split at hb'
  · rename_i c; subst c
    simp only [Option.some.injEq] at hb'; subst hb'
    exact tab_at gSizes hv1 e1
  · split at hb'
    · rename_i c; subst c
      simp only [Option.some.injEq] at hb'; subst hb'
      exact tab_at gForms hv0 e0
    · cases hb'

def withCells (cs : List A) : Obj → Obj
  | .cells _ ty fz => .cells (cs.map leafV).toArray ty fz
  | o => o
/-- A world that holds the tables. -/
noncomputable def laidWorld (os : Os) : World :=
  let w0 : World := World.holding Tryd.prog os ⟨#[], #[], []⟩
  { w0 with heap := (w0.heap.modify 0 (withCells tabL0)).modify 1 (withCells tabL1) }
end Go.Ab
end
