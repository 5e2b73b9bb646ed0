/- Contracts of the functions that the law reaches. -/
import Derived.Test.YtbdhocfaebchfaaOpPartD
import Derived.Test.YtbdhocfaebchfaaOpPartA
import Derived.Test.YtbdhocfaebchfaaOpPartB
import Derived.Test.YtbdhocfaebchfaaOpLAbRead
set_option linter.all false
set_option linter.unusedSimpArgs false
set_option linter.unusedVariables false
set_option linter.unnecessarySimpa false
section
/- A sorted list is searched. -/
namespace Go.Ab
open V Go.Proofs
set_option maxHeartbeats 16000000
set_option maxRecDepth 10000
set_option linter.unusedSimpArgs false
set_option linter.unusedVariables false

section
variable {H : Heap} {Q : A → Heap → Prop}
theorem cNaN_spec {a : Nat} (h : Q (.bool false) H) : AC Try.prog 132 [.int .u64 a] H Q := by
  refine AC.enter (E := env Try.prog 6 (fun _ => .copy) (fun _ => false)) env_ok Try.func132 rfl rfl rfl (by simp only [List.length_cons, List.length_nil]; exact of_decide_eq_true rfl) ?_
  ((try first | refine walk_aw env_ok (none) ?_ | refine walk_aw envR_ok (none) ?_); try simp -implicitDefEqProofs (maxSteps := 1000000) only [go_sem, ↓reduceIte, reduceCtorEq, Nat.reduceLT, Nat.reduceEqDiff, Nat.reduceBEq, Nat.reduceAdd, Nat.reduceMul, Nat.reduceSub, Nat.reduceLeDiff, Int.reduceNeg, Int.reduceLT, Int.reduceLE, Int.reduceEq, Int.reduceAdd, Int.reduceToNat])
  exact .inl h
theorem sNaN_spec {a : Nat} (h : Q (.bool false) H) : AC Try.prog 90 [.int .u64 a] H Q := by
  refine AC.enter (E := env Try.prog 6 (fun _ => .copy) (fun _ => false)) env_ok Try.func90 rfl rfl rfl (by simp only [List.length_cons, List.length_nil]; exact of_decide_eq_true rfl) ?_
  ((try first | refine walk_aw env_ok (none) ?_ | refine walk_aw envR_ok (none) ?_); try simp -implicitDefEqProofs (maxSteps := 1000000) only [go_sem, ↓reduceIte, reduceCtorEq, Nat.reduceLT, Nat.reduceEqDiff, Nat.reduceBEq, Nat.reduceAdd, Nat.reduceMul, Nat.reduceSub, Nat.reduceLeDiff, Int.reduceNeg, Int.reduceLT, Int.reduceLE, Int.reduceEq, Int.reduceAdd, Int.reduceToNat])
  exact .inl h
theorem Less_spec {a b : Nat} (h : Q (.bool (decide (a < b))) H) : AC Try.prog 89 [.int .u64 a, .int .u64 b] H Q := by
  have hd : decide ((a : Int) < b) = decide (a < b) := decide_eq_decide.2 (by omega)
  refine AC.enter (E := env Try.prog 17 (fun _ => .copy) (fun _ => false)) env_ok Try.func89 rfl rfl rfl (by simp only [List.length_cons, List.length_nil]; exact of_decide_eq_true rfl) ?_
  ((try first | refine walk_aw env_ok (none) ?_ | refine walk_aw envR_ok (none) ?_); try simp -implicitDefEqProofs (maxSteps := 1000000) only [go_sem, ↓reduceIte, reduceCtorEq, Nat.reduceLT, Nat.reduceEqDiff, Nat.reduceBEq, Nat.reduceAdd, Nat.reduceMul, Nat.reduceSub, Nat.reduceLeDiff, Int.reduceNeg, Int.reduceLT, Int.reduceLE, Int.reduceEq, Int.reduceAdd, Int.reduceToNat])
  refine cNaN_spec ?_
  ((try first | refine walk_aw env_ok (none) ?_ | refine walk_aw envR_ok (none) ?_); try simp -implicitDefEqProofs (maxSteps := 1000000) only [go_sem, ↓reduceIte, reduceCtorEq, Nat.reduceLT, Nat.reduceEqDiff, Nat.reduceBEq, Nat.reduceAdd, Nat.reduceMul, Nat.reduceSub, Nat.reduceLeDiff, Int.reduceNeg, Int.reduceLT, Int.reduceLE, Int.reduceEq, Int.reduceAdd, Int.reduceToNat, hd])
  exact .inl h
theorem BinarySearch_spec {l : List Nat} {t : Nat} (hl : l.length < 1000000000) (hs : ∀ i j, i < j → j < l.length → l.getD i 0 < l.getD j 0)
    (hf : ∀ k, k < l.length → l.getD k 0 = t → Q (.tup [.int .i64 k, .bool true]) H) (hn : (∀ k, k < l.length → l.getD k 0 ≠ t) → ∀ z : Int, Q (.tup [.int .i64 z, .bool false]) H) :
    AC Try.prog 41 [.sl (uA l) none (), .int .u64 t] H Q := by
  have e1 := uA_flagless
  have e2 := uA_low
  have e3 := uA_uni
  have e4 := uA_len
  have e5 := uA_strip
  refine AC.enter (E := env Try.prog 54 (fun _ => .copy) (fun _ => false)) env_ok Try.func41 rfl rfl rfl (by simp only [List.length_cons, List.length_nil]; exact of_decide_eq_true rfl) ?_
  ((try first | refine walk_aw env_ok (none) ?_ | refine walk_aw envR_ok (none) ?_); try simp -implicitDefEqProofs (maxSteps := 1000000) only [go_sem, ↓reduceIte, reduceCtorEq, Nat.reduceLT, Nat.reduceEqDiff, Nat.reduceBEq, Nat.reduceAdd, Nat.reduceMul, Nat.reduceSub, Nat.reduceLeDiff, Int.reduceNeg, Int.reduceLT, Int.reduceLE, Int.reduceEq, Int.reduceAdd, Int.reduceToNat, e1, e2, e3, e4, e5])
  refine AW.loop (fun st => ∃ i j : Nat, st.σ 0 = .sl (uA l) none () ∧ st.σ 1 = .int .u64 t ∧ st.σ 6 = .int .i64 l.length ∧ st.σ 7 = .int .i64 i ∧ st.σ 8 = .int .i64 j ∧ i ≤ j ∧ j ≤ l.length ∧ (∀ k, k < i → l.getD k 0 < t) ∧ (∀ k, j ≤ k → k < l.length → t ≤ l.getD k 0) ∧ st.H = H)
    (fun st => match st.σ 7, st.σ 8 with | .int _ a, .int _ b => b.toNat - a.toNat | _, _ => 0) ?_ ?_
  · refine ⟨0, l.length, ?_⟩
    ((try first | refine walk_aw env_ok (none) ?_ | refine walk_aw envR_ok (none) ?_); try simp -implicitDefEqProofs (maxSteps := 1000000) only [go_sem, ↓reduceIte, reduceCtorEq, Nat.reduceLT, Nat.reduceEqDiff, Nat.reduceBEq, Nat.reduceAdd, Nat.reduceMul, Nat.reduceSub, Nat.reduceLeDiff, Int.reduceNeg, Int.reduceLT, Int.reduceLE, Int.reduceEq, Int.reduceAdd, Int.reduceToNat])
    exact ⟨Nat.zero_le _, by omega, by omega, by omega⟩
  rintro ⟨σ, G⟩ ⟨i, j, s0, s1, s6, s7, s8, hij, hj, h1, h2, hG⟩
  simp only at s0 s1 s6 s7 s8 hG
  subst hG
  by_cases c : (i : Int) < j
  · have w1 : IntKind.i64.wrap ((i : Int) + j) = ((i + j : Nat) : Int) := by rw [wi64]; omega
    have w2 : IntKind.u64.wrap ((i + j : Nat) : Int) = ((i + j : Nat) : Int) := by rw [wu64]; omega
    have w3 : (((i + j : Nat) : Int).fdiv (2 ^ min 1 64)) = (((i + j) / 2 : Nat) : Int) := by
      rw [show min 1 64 = 1 from rfl, Int.fdiv_eq_ediv_of_nonneg _ (by decide)]; simp only [Int.reducePow]; omega
    have w4 : IntKind.i64.wrap (((i + j) / 2 : Nat) : Int) = (((i + j) / 2 : Nat) : Int) := by rw [wi64]; omega
    have hm : (i + j) / 2 < l.length := by omega
    have c0 : (0 : Int) ≤ (((i + j) / 2 : Nat) : Int) := by omega
    have c1 : (((i + j) / 2 : Nat) : Int) < l.length := by omega
    have n1 : ¬ (1 : Int) < 0 := by omega
    have hat := uA_at l ((i + j) / 2) (.undef ()) hm
    generalize hmm : (i + j) / 2 = m at *
    have w5 : IntKind.i64.wrap ((m : Int) + 1) = ((m + 1 : Nat) : Int) := by rw [wi64]; omega
    ((try first | refine walk_aw env_ok (none) ?_ | refine walk_aw envR_ok (none) ?_); try simp -implicitDefEqProofs (maxSteps := 1000000) only [go_sem, ↓reduceIte, reduceCtorEq, Nat.reduceLT, Nat.reduceEqDiff, Nat.reduceBEq, Nat.reduceAdd, Nat.reduceMul, Nat.reduceSub, Nat.reduceLeDiff, Int.reduceNeg, Int.reduceLT, Int.reduceLE, Int.reduceEq, Int.reduceAdd, Int.reduceToNat, s0, s1, s6, s7, s8, c, w1, w2, w3, w4, c0, c1, n1, hat, e1, e2, e3, e4, e5])
    refine Less_spec ?_
    by_cases d : l.getD m 0 < t
    · rw [decide_eq_true d]
      ((try first | refine walk_aw env_ok (none) ?_ | refine walk_aw envR_ok (none) ?_); try simp -implicitDefEqProofs (maxSteps := 1000000) only [go_sem, ↓reduceIte, reduceCtorEq, Nat.reduceLT, Nat.reduceEqDiff, Nat.reduceBEq, Nat.reduceAdd, Nat.reduceMul, Nat.reduceSub, Nat.reduceLeDiff, Int.reduceNeg, Int.reduceLT, Int.reduceLE, Int.reduceEq, Int.reduceAdd, Int.reduceToNat, s0, s1, s6, s7, s8, w5])
      refine ⟨⟨m + 1, j, rfl, rfl, by omega, hj, fun k hk => ?_, h2⟩, by omega⟩
      by_cases hkm : k = m
      · rw [hkm]; exact d
      · exact Nat.lt_trans (hs k m (by omega) hm) d
    · rw [decide_eq_false d]
      ((try first | refine walk_aw env_ok (none) ?_ | refine walk_aw envR_ok (none) ?_); try simp -implicitDefEqProofs (maxSteps := 1000000) only [go_sem, ↓reduceIte, reduceCtorEq, Nat.reduceLT, Nat.reduceEqDiff, Nat.reduceBEq, Nat.reduceAdd, Nat.reduceMul, Nat.reduceSub, Nat.reduceLeDiff, Int.reduceNeg, Int.reduceLT, Int.reduceLE, Int.reduceEq, Int.reduceAdd, Int.reduceToNat, s0, s1, s6, s7, s8, w5])
      refine ⟨⟨i, m, rfl, rfl, by omega, by omega, h1, fun k hk hkl => ?_⟩, by omega⟩
      by_cases hkm : k = m
      · rw [hkm]; omega
      · have := hs m k (by omega) hkl; omega
  · have hij' : i = j := by omega
    subst hij'
    by_cases c2 : (i : Int) < l.length
    · have hil : i < l.length := by omega
      have c0 : (0 : Int) ≤ i := by omega
      have hat := uA_at l i (.undef ()) hil
      by_cases d : l.getD i 0 = t
      · have hd : ((l.getD i 0 : Nat) : Int) = t := by omega
        ((try first | refine walk_aw env_ok (none) ?_ | refine walk_aw envR_ok (none) ?_); try simp -implicitDefEqProofs (maxSteps := 1000000) only [go_sem, ↓reduceIte, reduceCtorEq, Nat.reduceLT, Nat.reduceEqDiff, Nat.reduceBEq, Nat.reduceAdd, Nat.reduceMul, Nat.reduceSub, Nat.reduceLeDiff, Int.reduceNeg, Int.reduceLT, Int.reduceLE, Int.reduceEq, Int.reduceAdd, Int.reduceToNat, s0, s1, s6, s7, s8, c, c2, c0, hat, hd, e1, e2, e3, e4, e5])
        exact .inl (hf i hil d)
      · have hd : ¬ ((l.getD i 0 : Nat) : Int) = t := by omega
        ((try first | refine walk_aw env_ok (none) ?_ | refine walk_aw envR_ok (none) ?_); try simp -implicitDefEqProofs (maxSteps := 1000000) only [go_sem, ↓reduceIte, reduceCtorEq, Nat.reduceLT, Nat.reduceEqDiff, Nat.reduceBEq, Nat.reduceAdd, Nat.reduceMul, Nat.reduceSub, Nat.reduceLeDiff, Int.reduceNeg, Int.reduceLT, Int.reduceLE, Int.reduceEq, Int.reduceAdd, Int.reduceToNat, s0, s1, s6, s7, s8, c, c2, c0, hat, hd, e1, e2, e3, e4, e5])
        refine sNaN_spec ?_
        ((try first | refine walk_aw env_ok (none) ?_ | refine walk_aw envR_ok (none) ?_); try simp -implicitDefEqProofs (maxSteps := 1000000) only [go_sem, ↓reduceIte, reduceCtorEq, Nat.reduceLT, Nat.reduceEqDiff, Nat.reduceBEq, Nat.reduceAdd, Nat.reduceMul, Nat.reduceSub, Nat.reduceLeDiff, Int.reduceNeg, Int.reduceLT, Int.reduceLE, Int.reduceEq, Int.reduceAdd, Int.reduceToNat, s0, s1, s6, s7, s8, c, c2, c0, hat, hd, e1, e2, e3, e4, e5])
        refine .inl (hn (fun k hk e => ?_) _)
        rcases Nat.lt_trichotomy k i with h | h | h
        · have := h1 k h; omega
        · exact d (by rw [← h]; exact e)
        · have := hs i k h hk; have := h2 i (Nat.le_refl _) hil; omega
    · ((try first | refine walk_aw env_ok (none) ?_ | refine walk_aw envR_ok (none) ?_); try simp -implicitDefEqProofs (maxSteps := 1000000) only [go_sem, ↓reduceIte, reduceCtorEq, Nat.reduceLT, Nat.reduceEqDiff, Nat.reduceBEq, Nat.reduceAdd, Nat.reduceMul, Nat.reduceSub, Nat.reduceLeDiff, Int.reduceNeg, Int.reduceLT, Int.reduceLE, Int.reduceEq, Int.reduceAdd, Int.reduceToNat, s0, s1, s6, s7, s8, c, c2, e1, e2, e3, e4, e5])
      refine .inl (hn (fun k hk e => ?_) _)
      have := h1 k (by omega); omega
end
end Go.Ab
end

section
/- Expressions that are read: plain. -/
namespace Go.Ab
open V Go.Proofs
set_option maxHeartbeats 4000000
set_option maxRecDepth 10000
set_option linter.unusedSimpArgs false
set_option linter.unusedVariables false

/-! the cursor goes on -/
theorem CS.take_mono (s : CS) (n : Nat) : s.pos ≤ (s.take n).2.pos := by
  unfold CS.take
  split
  · split
    · simp only []; omega
    · exact Nat.le_refl _
  · exact Nat.le_refl _
theorem CS.fail_pos (s : CS) (e : Int) : (s.fail e).pos = s.pos := by unfold CS.fail; split <;> rfl
theorem seven_mono : ∀ (k : Nat) (s : CS), s.pos ≤ (seven k s).2.pos := by
  intro k
  induction k with
  | zero => intro s; simp only [seven]; rw [CS.fail_pos]; exact Nat.le_refl _
  | succ k ih =>
    intro s
    have h1 := s.take_mono 1
    have h2 := ih (s.take 1).2
    simp only [seven]
    split
    · split
      · exact h1
      · split
        · rename_i l s2 e; rw [e] at h2; exact Nat.le_trans h1 h2
        · rename_i s2 e; rw [e] at h2; exact Nat.le_trans h1 h2
    · exact h1
theorem CS.uleb_mono (s : CS) : s.pos ≤ s.uleb.2.pos := by
  have h := seven_mono 10 s
  unfold CS.uleb
  split
  · rename_i l s2 e
    rw [e] at h
    split
    · rw [CS.fail_pos]; exact h
    · exact h
  · rename_i s2 e; rw [e] at h; exact h
theorem CS.sleb_mono (s : CS) : s.pos ≤ s.sleb.2.pos := by
  have h := seven_mono 10 s
  unfold CS.sleb
  split
  · rename_i l s2 e
    rw [e] at h
    split
    · rw [CS.fail_pos]; exact h
    · exact h
  · rename_i s2 e; rw [e] at h; exact h
theorem dat_mono (s : CS) : s.pos ≤ (dat s).2.pos := by
  unfold dat
  refine Nat.le_trans s.uleb_mono (Nat.le_trans ?_ (CS.take_mono _ _))
  split
  · rw [CS.fail_pos]; exact Nat.le_refl _
  · exact Nat.le_refl _
theorem tkv_mono (s : CS) (c : Int) : s.pos ≤ (tkv s c).2.pos := by
  unfold tkv
  have h1 := s.uleb_mono
  have h2 := s.uleb.2.uleb_mono
  have h3 := s.uleb.2.sleb_mono
  have h4 := s.sleb_mono
  have h5 := dat_mono s
  repeat' split
  all_goals first | exact CS.take_mono _ _ | (simp only []; omega) | (simp only [CS.fail_pos]; omega)
theorem tkv_ok {s : CS} (hs : s.Ok) (c : Int) : (tkv s c).2.Ok ∧ (tkv s c).2.b = s.b := by
  unfold tkv
  repeat' split
  all_goals first
    | exact ⟨hs.take _, CS.take_b _ _⟩
    | exact ⟨hs.fail (by omega) (by omega), CS.fail_b _ _⟩
    | exact ⟨hs.uleb.sleb, by rw [CS.sleb_b hs.uleb, CS.uleb_b hs]⟩
    | exact ⟨hs.uleb.uleb, by rw [CS.uleb_b hs.uleb, CS.uleb_b hs]⟩
    | exact ⟨hs.uleb, CS.uleb_b hs⟩
    | exact ⟨hs.sleb, CS.sleb_b hs⟩
    | exact ⟨dat_ok hs, dat_b hs⟩
    | exact ⟨hs, rfl⟩
theorem tk1_ok {s : CS} (hs : s.Ok) : (tk1 s).2.Ok ∧ (tk1 s).2.b = s.b := by
  unfold tk1
  split
  · exact ⟨hs.take 1, CS.take_b _ _⟩
  · have := tkv_ok (hs.take 1) (le (s.take 1).1 : Nat)
    exact ⟨this.1, this.2.trans (CS.take_b _ _)⟩
theorem take1_pos {s : CS} (h0 : s.err = 0) (h : (s.take 1).2.err = 0) : (s.take 1).2.pos = s.pos + 1 := by
  unfold CS.take at *
  rw [if_pos h0] at *
  split
  · rfl
  · rename_i hc; rw [if_neg hc] at h; simp at h
theorem tk1_pos {s : CS} (h0 : s.err = 0) (h : (tk1 s).2.err = 0) : s.pos < (tk1 s).2.pos := by
  unfold tk1 at *
  split
  · rename_i hc; rw [if_pos hc] at h; exact absurd h hc
  · rename_i hc
    have h1 := take1_pos h0 (by omega)
    have h2 := tkv_mono (s.take 1).2 (le (s.take 1).1 : Nat)
    omega
/-- What is read is in order. -/
theorem dat_len (s : CS) : (dat s).1.length ≤ 65536 := by
  unfold dat
  split
  · have : ((s.uleb.2.fail 3).take s.uleb.1).1 = [] := by
      unfold CS.take
      rw [if_neg]
      unfold CS.fail; split
      · simp
      · assumption
    rw [this]; exact Nat.zero_le _
  · have := take_len s.uleb.2 s.uleb.1; omega
theorem tkv_in {s : CS} (hs : s.Ok) (c : Int) : (tkv s c).1.In ∧ (tkv s c).1.code = c := by
  have l1 : ∀ n, n ≤ 8 → le (s.take n).1 < 18446744073709551616 := fun n hn => le_u64 (Nat.le_trans (take_len s n) hn)
  have hsz := szo_or c
  have u1 := CS.uleb_lt hs
  have u2 := CS.uleb_lt hs.uleb
  have d1 := dat_len s
  unfold tkv
  repeat' split
  all_goals refine ⟨⟨?_, ?_, ?_⟩, rfl⟩
  all_goals first
    | exact ext_lt (by omega)
    | exact usg_lt _
    | exact l1 _ (by omega)
    | (simp only [List.length_nil]; omega)
    | (simp only []; omega)
theorem tk1_in {s : CS} (hs : s.Ok) : (tk1 s).1.In := by
  unfold tk1
  split
  · exact ⟨Nat.zero_lt_succ _, Nat.zero_lt_succ _, Nat.zero_lt_succ _⟩
  · exact (tkv_in (hs.take 1) _).1

/-! all operations -/
def tkA : Nat → CS → List OV → List Nat → Sum Int (List OV × List Nat)
  | 0, _, _, _ => .inl 3
  | f + 1, s, out, at_ => if s.left = 0 then .inr (out, at_) else if out.length = 60 then .inl 3 else
    (if (tk1 s).2.err ≠ 0 then .inl (tk1 s).2.err else tkA f (tk1 s).2 (out ++ [(tk1 s).1]) (at_ ++ [s.pos]))
def plc (l : List Nat) (t : Nat) : Option Nat := (List.range l.length).find? fun k => decide (l.getD k 0 = t)
def jmp (l : List Nat) (i : Nat) (x : OV) : Option OV :=
  if shp x.code = 8 then (plc l ((l.getD (i + 1) 0 + x.a) % 18446744073709551616)).map fun k => { x with a := k } else some x
def tkJ (l : List Nat) : Nat → List OV → Option (List OV)
  | _, [] => some []
  | i, x :: r => match jmp l i x, tkJ l (i + 1) r with
    | some y, some m => some (y :: m)
    | _, _ => none
/-- What the bytes are, or why they are none. -/
def oTake (b : List UInt8) : Int × List OV :=
  match tkA 62 ⟨b, 0, 0⟩ [] [] with
  | .inl e => (e, [])
  | .inr (out, at_) => match tkJ (at_ ++ [b.length]) 0 out with
    | some m => (0, m)
    | none => (46, [])
theorem plc_some {l : List Nat} {t k : Nat} (hs : ∀ i j, i < j → j < l.length → l.getD i 0 < l.getD j 0) (hk : k < l.length) (h : l.getD k 0 = t) : plc l t = some k := by
  cases hp : plc l t with
  | none =>
    unfold plc at hp
    rw [List.find?_eq_none] at hp
    exact absurd (decide_eq_true h) (hp k (List.mem_range.2 hk))
  | some j =>
    unfold plc at hp
    have h1 := List.find?_some hp
    have h2 := List.mem_range.1 (List.mem_of_find?_eq_some hp)
    rw [decide_eq_true_eq] at h1
    rcases Nat.lt_trichotomy j k with c | c | c
    · have := hs j k c hk; omega
    · rw [c]
    · have := hs k j c h2; omega
theorem plc_none {l : List Nat} {t : Nat} (h : ∀ k, k < l.length → l.getD k 0 ≠ t) : plc l t = none := by
  unfold plc
  rw [List.find?_eq_none]
  intro k hk
  simpa using h k (List.mem_range.1 hk)
theorem plc_get {l : List Nat} {t k : Nat} (h : plc l t = some k) : k < l.length ∧ l.getD k 0 = t := by
  unfold plc at h
  have h1 := List.find?_some h
  rw [decide_eq_true_eq] at h1
  exact ⟨List.mem_range.1 (List.mem_of_find?_eq_some h), h1⟩

/-! the cells of a list -/
theorem oF_nil : flat (oA []) = [] := rfl
theorem oF_cons (x : OV) (l : List OV) : flat (oA (x :: l)) = x.cells ++ flat (oA l) := rfl
theorem oF_app (l m : List OV) : flat (oA (l ++ m)) = flat (oA l) ++ flat (oA m) := by
  rw [oA, List.map_append, flat_append]; rfl
theorem oF_len (l : List OV) : (flat (oA l)).length = l.length * 4 := by
  rw [flat_length (oA_uni l), oA_length]
theorem oF_chunk : ∀ l : List OV, chunkR 4 l.length (flat (oA l)) = oA l := by
  intro l
  induction l with
  | nil => rfl
  | cons x l ih =>
    rw [List.length_cons, oF_cons]
    show V.agg ((x.cells ++ flat (oA l)).take 4) :: chunkR 4 l.length ((x.cells ++ flat (oA l)).drop 4) = _
    rw [List.take_append_of_le_length (by rw [ovCells_len]; exact Nat.le_refl _), List.drop_append, List.drop_of_length_le (by rw [ovCells_len]; exact Nat.le_refl _), ovCells_len, Nat.sub_self, ovCells_take]
    rw [List.nil_append, List.drop_zero, ih]
    rfl
theorem oF_part (d r : List OV) (x : OV) : ((flat (oA (d ++ x :: r))).drop (d.length * 4)).take 4 = x.cells := by
  rw [oF_app, List.drop_append, List.drop_of_length_le (by rw [oF_len]; exact Nat.le_refl _), oF_len, Nat.sub_self, List.nil_append, List.drop_zero, oF_cons]
  rw [List.take_append_of_le_length (by rw [ovCells_len]; exact Nat.le_refl _), ovCells_take]
theorem oF_put (d r : List OV) (x : OV) (k : Nat) : (flat (oA (d ++ x :: r))).take (d.length * 4 + 1) ++ [V.int .u64 (k : Int)] ++ (flat (oA (d ++ x :: r))).drop (d.length * 4 + 1 + 1) = flat (oA (d ++ { x with a := k } :: r)) := by
  rw [oF_app, oF_app, oF_cons, oF_cons]
  have hl := oF_len d
  rw [List.take_append, List.take_of_length_le (by omega), List.drop_append, List.drop_of_length_le (by omega), hl]
  rw [show d.length * 4 + 1 - d.length * 4 = 1 by omega, show d.length * 4 + 1 + 1 - d.length * 4 = 2 by omega]
  simp [OV.cells]
theorem oF_flag (l : List OV) : (flat (oA l)).all flagless = true := by
  rw [List.all_eq_true]; intro v hv
  simp only [flat, List.mem_flatMap] at hv
  obtain ⟨y, hy, hvy⟩ := hv
  obtain ⟨x, _, rfl⟩ := List.mem_map.1 hy
  have := ovCells_flag x
  rw [flaglessL_all, List.all_eq_true] at this
  exact this v hvy
theorem oF_solid (l : List OV) : (flat (oA l)).all solid = true := by
  rw [List.all_eq_true]; intro v hv
  simp only [flat, List.mem_flatMap] at hv
  obtain ⟨y, hy, hvy⟩ := hv
  obtain ⟨x, _, rfl⟩ := List.mem_map.1 hy
  exact List.all_eq_true.1 (ovCells_solid x) v hvy
theorem oF_low (l : List OV) (n : Nat) : (flat (oA l)).all (V.low n) = true := by
  rw [List.all_eq_true]; intro v hv
  simp only [flat, List.mem_flatMap] at hv
  obtain ⟨y, hy, hvy⟩ := hv
  obtain ⟨x, _, rfl⟩ := List.mem_map.1 hy
  have := ovCells_low n x
  rw [lowL_all, List.all_eq_true] at this
  exact this v hvy
theorem thaw_ops {N i n : Nat} {G : Heap} {l : List OV} (h : G[i]? = some (.cells (flat (oA l)))) (hN : N ≤ i) (hn : n = l.length) : thaw1 N 4 true G (.win (i, 0) n ()) = some (.sl (oA l) none ()) := by
  subst hn
  simp only [thaw1, h, if_neg (show ¬ i < N by omega)]
  rw [if_pos ⟨oF_flag l, oF_solid l, oF_low l N, by rw [oF_len]; omega, by simp⟩]
  simp only [elems, cond_true, List.drop_zero, oF_chunk]
end Go.Ab
end

section
/- What is put is read as it was: numbers of 7-bit bytes. -/
namespace Go.Ab
open V Go.Proofs
set_option maxHeartbeats 4000000
set_option linter.unusedSimpArgs false
set_option linter.unusedVariables false

theorem val7_parts (n : Nat) : val7 (parts7 n) = n := by
  induction n using Nat.strongRecOn with
  | _ n ih =>
    unfold parts7
    split
    · simp [val7]
    · simp only [val7]
      rw [ih (n / 128) (by omega)]
      omega
theorem putU_len (n : Nat) : (putU n).length = (parts7 n).length := by
  induction n using Nat.strongRecOn with
  | _ n ih =>
    rw [putU_def]; unfold parts7
    split
    · rfl
    · simp only [List.length_cons]; rw [ih (n / 128) (by omega)]
theorem parts_top {k : Nat} : ∀ {n c : Nat}, n < c * 128 ^ k → (parts7 n).getD k 0 < c ∨ c = 0 := by
  induction k with
  | zero =>
    intro n c h
    left
    unfold parts7
    split
    · simpa using h
    · simp at h ⊢; omega
  | succ k ih =>
    intro n c h
    by_cases hc : c = 0
    · exact .inr hc
    unfold parts7
    split
    · left; simp; omega
    · rw [List.getD_cons_succ]
      refine ih ?_
      rw [Nat.div_lt_iff_lt_mul (by omega), Nat.mul_assoc, ← Nat.pow_succ]
      exact h

section
variable {s : CS} {rest : List UInt8}

/-- A byte is read. -/
theorem take_one {x : UInt8} (h0 : s.err = 0) (hb : s.b.drop s.pos = x :: rest) : s.take 1 = ([x], { s with pos := s.pos + 1 }) := by
  have hl : s.pos < s.b.length := by
    rcases Nat.lt_or_ge s.pos s.b.length with h | h
    · exact h
    · rw [List.drop_of_length_le h] at hb; cases hb
  unfold CS.take
  rw [if_pos h0, if_pos (by omega)]
  congr 1
  rw [List.drop_take, hb]
  simp
theorem drop_next {x : UInt8} (hb : s.b.drop s.pos = x :: rest) : s.b.drop (s.pos + 1) = rest := by
  rw [← List.drop_drop, hb]; rfl

theorem seven_putU : ∀ (n : Nat) (k : Nat) {s : CS}, n < 128 ^ (k + 1) → s.err = 0 → s.b.drop s.pos = putU n ++ rest →
    seven (k + 1) s = (some (parts7 n), { s with pos := s.pos + (putU n).length }) := by
  intro n
  induction n using Nat.strongRecOn with
  | _ n ih =>
    intro k s hn h0 hb
    rw [putU_def n] at hb ⊢
    unfold parts7
    by_cases h : n < 128
    · rw [if_pos h] at hb ⊢
      rw [dif_pos h]
      have ht := take_one h0 hb
      unfold seven
      simp only [ht]
      have hle : le [UInt8.ofNat n] = n := by
        simp [le, UInt8.toNat_ofNat']
        omega
      rw [if_pos h0, hle, if_pos h]
      rfl
    · rw [if_neg h] at hb ⊢
      rw [dif_neg h]
      have ht := take_one h0 hb
      have hle : le [UInt8.ofNat (n % 128 + 128)] = n % 128 + 128 := by
        simp [le, UInt8.toNat_ofNat']
        omega
      have hk : ∃ j, k = j + 1 := by
        cases k with
        | zero => simp at hn; omega
        | succ j => exact ⟨j, rfl⟩
      obtain ⟨j, rfl⟩ := hk
      have hdiv : n / 128 < 128 ^ (j + 1) := by rw [Nat.div_lt_iff_lt_mul (by omega)]; rw [Nat.pow_succ] at hn; exact hn
      have := ih (n / 128) (by omega) j (s := { s with pos := s.pos + 1 }) hdiv h0 (drop_next (rest := putU (n / 128) ++ rest) hb)
      unfold seven
      simp only [ht]
      rw [if_pos h0, hle, if_neg (by omega), this]
      have h1 : (n % 128 + 128) % 128 = n % 128 := by omega
      have h2 : s.pos + 1 + (putU (n / 128)).length = s.pos + ((putU (n / 128)).length + 1) := by omega
      simp only [List.length_cons, h1, h2]

theorem uleb_putU {n : Nat} (hn : n < 18446744073709551616) (h0 : s.err = 0) (hb : s.b.drop s.pos = putU n ++ rest) : s.uleb = (n, { s with pos := s.pos + (putU n).length }) := by
  have h := seven_putU (rest := rest) n 9 (s := s) (by omega) h0 hb
  unfold CS.uleb
  rw [h]
  simp only
  rw [if_neg, val7_parts]
  rintro ⟨_, h2⟩
  have := parts_top (k := 9) (n := n) (c := 2) (by omega)
  omega
end


section
variable {s : CS} {rest : List UInt8}
theorem seven_enc : ∀ (P : List Nat) (k : Nat) {s : CS}, P ≠ [] → P.length ≤ k + 1 → (∀ x ∈ P, x < 128) → s.err = 0 → s.b.drop s.pos = (enc P.dropLast ++ [UInt8.ofNat (P.getLastD 0)]) ++ rest →
    seven (k + 1) s = (some P, { s with pos := s.pos + P.length }) := by
  intro P
  induction P with
  | nil => intro k s h; exact absurd rfl h
  | cons x P ih =>
    intro k s _ hl hx h0 hb
    have hx0 := hx x (by simp)
    cases P with
    | nil =>
      have ht := take_one (rest := rest) (x := UInt8.ofNat x) h0 (by simpa [enc] using hb)
      unfold seven
      simp only [ht]
      have hle : le [UInt8.ofNat x] = x := by simp [le, UInt8.toNat_ofNat']; omega
      rw [if_pos h0, hle, if_pos hx0]
      rfl
    | cons y P =>
      have hb2 : s.b.drop s.pos = UInt8.ofNat (x + 128) :: ((enc (y :: P).dropLast ++ [UInt8.ofNat ((y :: P).getLastD 0)]) ++ rest) := by
        rw [hb, List.dropLast_cons_of_ne_nil (by simp)]; simp [enc]
      have ht := take_one h0 hb2
      have hle : le [UInt8.ofNat (x + 128)] = x + 128 := by simp [le, UInt8.toNat_ofNat']; omega
      have hk : ∃ j, k = j + 1 := by
        cases k with
        | zero => simp at hl
        | succ j => exact ⟨j, rfl⟩
      obtain ⟨j, rfl⟩ := hk
      have := ih j (s := { s with pos := s.pos + 1 }) (by simp) (by simpa using hl) (fun z hz => hx z (by simp [hz])) h0 (drop_next hb2)
      unfold seven
      simp only [ht]
      rw [if_pos h0, hle, if_neg (by omega), this]
      have h1 : (x + 128) % 128 = x := by omega
      have h2 : s.pos + 1 + (y :: P).length = s.pos + ((y :: P).length + 1) := by omega
      simp only [h1]
      rw [h2]; rfl

theorem sval_step {x : Nat} {l : List Nat} (h : l ≠ []) : sval (x :: l) = x + 128 * sval l := by
  have hl := List.length_pos_iff.2 h
  unfold sval
  have e : (x :: l).getD ((x :: l).length - 1) 0 = l.getD (l.length - 1) 0 := by
    rw [show (x :: l).length - 1 = (l.length - 1) + 1 by simp; omega, List.getD_cons_succ]
  rw [e]
  split
  · simp only [val7]; omega
  · simp only [val7, List.length_cons, Int.pow_succ]; omega
theorem sval_parts : ∀ (m : Nat) (n : Int), n.natAbs = m → sval (partsS n) = n := by
  intro m
  induction m using Nat.strongRecOn with
  | _ m ih =>
    intro n hm
    unfold partsS
    split
    · rename_i c
      obtain ⟨x, hx⟩ : ∃ x : Nat, n % 128 = (x : Int) := ⟨(n % 128).toNat, by omega⟩
      rw [hx, Int.toNat_natCast]
      simp only [sval, List.length_cons, List.length_nil, List.getD_cons_zero, val7]
      split
      · rename_i c2
        have c3 : x < 64 := by simpa using c2
        omega
      · rename_i c2
        have c3 : ¬ x < 64 := by simpa using c2
        rw [show ((128 : Int) ^ (0 + 1)) = 128 from rfl]
        omega
    · rw [sval_step (partsS_ne _), ih _ (by omega) (n / 128) rfl]; omega
theorem parts_last : ∀ (k : Nat) (n : Int), (partsS n).length = k + 1 → (partsS n).getD k 0 = (n / 128 ^ k % 128).toNat := by
  intro k
  induction k with
  | zero =>
    intro n h
    unfold partsS at h ⊢
    split
    · simp
    · rename_i c
      rw [dif_neg c] at h
      have := List.length_pos_iff.2 (partsS_ne (n / 128))
      simp only [List.length_cons] at h; omega
  | succ k ih =>
    intro n h
    unfold partsS at h ⊢
    split
    · rename_i c; rw [dif_pos c] at h; simp at h
    · rename_i c
      rw [dif_neg c] at h
      rw [List.getD_cons_succ, ih (n / 128) (by simpa using h), Int.pow_succ, Int.mul_comm, Int.ediv_ediv_of_nonneg (by decide)]
theorem sleb_putS {n : Int} (hn : -9223372036854775808 ≤ n ∧ n < 9223372036854775808) (h0 : s.err = 0) (hb : s.b.drop s.pos = putS n ++ rest) : s.sleb = (n, { s with pos := s.pos + (putS n).length }) := by
  have hlen : (putS n).length = (partsS n).length := by
    have := List.length_pos_iff.2 (partsS_ne n)
    rw [putS]; simp [enc]; omega
  have h := seven_enc (rest := rest) (partsS n) 9 (s := s) (partsS_ne n) (partsS_len n hn) (partsS_lt n hn) h0 hb
  unfold CS.sleb
  rw [h, hlen]
  simp only
  rw [if_neg, sval_parts _ n rfl]
  rintro ⟨h1, h2, h3⟩
  have h4 := parts_last 9 n h1
  have h5 : (128 : Int) ^ 9 = 9223372036854775808 := by decide
  rw [h5] at h4
  omega
end
end Go.Ab
end

section
/- Operations that are put are taken as they were. -/
namespace Go.Ab
open V Go.Proofs
set_option maxHeartbeats 4000000
set_option maxRecDepth 10000
set_option linter.unusedSimpArgs false
set_option linter.unusedVariables false

theorem le_leB_mod : ∀ (k a : Nat), le (leB k a) = a % 256 ^ k := by
  intro k
  induction k with
  | zero => intro a; simp [leB, le, Nat.mod_one]
  | succ k ih =>
    intro a
    have hb : (UInt8.ofNat (a % 256)).toNat = a % 256 := by simp
    simp only [leB, le, ih, hb]
    rw [Nat.pow_succ, Nat.mul_comm (256 ^ k) 256, Nat.mod_mul]
theorem take_pre {s : CS} {rest m : List UInt8} (h0 : s.err = 0) (hb : s.b.drop s.pos = m ++ rest) : s.take m.length = (m, { s with pos := s.pos + m.length }) := by
  have hl := congrArg List.length hb
  rw [List.length_drop, List.length_append] at hl
  unfold CS.take
  rw [if_pos h0, if_pos (by omega)]
  congr 1
  rw [List.drop_take, hb, Nat.add_sub_cancel_left, List.take_left']
  rfl
theorem drop_pre {s : CS} {rest m : List UInt8} (hb : s.b.drop s.pos = m ++ rest) : s.b.drop (s.pos + m.length) = rest := by
  rw [← List.drop_drop, hb, List.drop_left']; rfl
theorem usg_sgn {n : Nat} (h : n < 18446744073709551616) : usg (sgn n) = n := by unfold usg sgn; split <;> omega
theorem okN_bad' {x : OV} (h : okN x = true) : ¬ badN x := fun hb => by rw [okN_bad hb] at h; cases h

theorem tkv_put {x : OV} {w : Nat} {s : CS} {rest : List UInt8} (hx : x.In) (ok : okN x = true) (h0 : s.err = 0) (hb : s.b.drop s.pos = tail1 x w ++ rest) :
    tkv s x.code = ({ x with a := if shp x.code = 8 then ext w 2 else x.a }, { s with pos := s.pos + (tail1 x w).length }) := by
  have hbad := okN_bad' ok
  have hr := shp_range x.code
  obtain ⟨xa, xb, xd⟩ := id hx
  obtain ⟨c, a, b, d⟩ := x
  unfold badN at hbad
  simp only at *
  have ok3 : shp c = 3 → a < 256 ^ szo c := fun e => by
    have hq := okN_3 (x := ⟨c, a, b, d⟩) (okN_bad' ok) e
    rw [ok] at hq
    have := of_decide_eq_true hq.symm
    have hp : 0 < 256 ^ szo c := Nat.pow_pos (by decide)
    simp only at this
    rw [Nat.div_eq_zero_iff] at this; omega
  have ok4 : shp c = 4 → ext a (szo c) = a := fun e => by
    have hq := okN_4 (x := ⟨c, a, b, d⟩) (okN_bad' ok) e
    rw [ok] at hq
    exact of_decide_eq_true hq.symm
  have ok7 : shp c = 7 → a < 256 := fun e => by
    have hq := okN_7 (x := ⟨c, a, b, d⟩) (okN_bad' ok) e
    rw [ok] at hq
    exact of_decide_eq_true hq.symm
  have hd0 : shp c ≠ 11 → d = [] := fun e => List.eq_nil_of_length_eq_zero (by omega)
  have hb0 : shp c ≠ 9 → shp c ≠ 10 → b = 0 := fun e e' => by omega
  by_cases c1 : shp c = 1
  · have ht : tail1 ⟨c, a, b, d⟩ w = [] := by unfold tail1; repeat (first | rw [if_pos (by simp only; omega)] | rw [if_neg (by simp only; omega)])
    have hv : tkv s c = (⟨c, 0, 0, []⟩, s) := by unfold tkv; repeat (first | rw [if_pos (by omega)] | rw [if_neg (by omega)])
    rw [ht, hv, if_neg (by omega), hb0 (by omega) (by omega), hd0 (by omega), show a = 0 by omega]; rfl
  by_cases c2 : shp c = 2
  · have ht : tail1 ⟨c, a, b, d⟩ w = leB 8 a := by unfold tail1; repeat (first | rw [if_pos (by simp only; omega)] | rw [if_neg (by simp only; omega)])
    have hv : tkv s c = (⟨c, le (s.take 8).1, 0, []⟩, (s.take 8).2) := by unfold tkv; repeat (first | rw [if_pos (by omega)] | rw [if_neg (by omega)])
    rw [ht] at hb ⊢
    have hk := take_pre h0 hb
    rw [leB_length] at hk ⊢
    rw [hv, hk, if_neg (by omega), hb0 (by omega) (by omega), hd0 (by omega), le_leB_mod, Nat.mod_eq_of_lt (by simpa using xa)]
  by_cases c3 : shp c = 3
  · have ht : tail1 ⟨c, a, b, d⟩ w = leB (szo c) a := by unfold tail1; repeat (first | rw [if_pos (by simp only; omega)] | rw [if_neg (by simp only; omega)])
    have hv : tkv s c = (⟨c, le (s.take (szo c)).1, 0, []⟩, (s.take (szo c)).2) := by unfold tkv; repeat (first | rw [if_pos (by omega)] | rw [if_neg (by omega)])
    rw [ht] at hb ⊢
    have hk := take_pre h0 hb
    rw [leB_length] at hk ⊢
    rw [hv, hk, if_neg (by omega), hb0 (by omega) (by omega), hd0 (by omega), le_leB_mod, Nat.mod_eq_of_lt (ok3 c3)]
  by_cases c4 : shp c = 4
  · have ht : tail1 ⟨c, a, b, d⟩ w = leB (szo c) a := by unfold tail1; repeat (first | rw [if_pos (by simp only; omega)] | rw [if_neg (by simp only; omega)])
    have hv : tkv s c = (⟨c, ext (le (s.take (szo c)).1) (szo c), 0, []⟩, (s.take (szo c)).2) := by unfold tkv; repeat (first | rw [if_pos (by omega)] | rw [if_neg (by omega)])
    rw [ht] at hb ⊢
    have hk := take_pre h0 hb
    rw [leB_length] at hk ⊢
    rw [hv, hk, if_neg (by omega), hb0 (by omega) (by omega), hd0 (by omega), le_leB_mod, ext_mod, ok4 c4]
  by_cases c5 : shp c = 5
  · have ht : tail1 ⟨c, a, b, d⟩ w = putU a := by unfold tail1; repeat (first | rw [if_pos (by simp only; omega)] | rw [if_neg (by simp only; omega)])
    have hv : tkv s c = (⟨c, s.uleb.1, 0, []⟩, s.uleb.2) := by unfold tkv; repeat (first | rw [if_pos (by omega)] | rw [if_neg (by omega)])
    rw [ht] at hb ⊢
    rw [hv, uleb_putU xa h0 hb, if_neg (by omega), hb0 (by omega) (by omega), hd0 (by omega)]
  by_cases c6 : shp c = 6
  · have ht : tail1 ⟨c, a, b, d⟩ w = putS (sgn a) := by unfold tail1; repeat (first | rw [if_pos (by simp only; omega)] | rw [if_neg (by simp only; omega)])
    have hv : tkv s c = (⟨c, usg s.sleb.1, 0, []⟩, s.sleb.2) := by unfold tkv; repeat (first | rw [if_pos (by omega)] | rw [if_neg (by omega)])
    rw [ht] at hb ⊢
    rw [hv, sleb_putS (sgn_range xa) h0 hb, if_neg (by omega), hb0 (by omega) (by omega), hd0 (by omega), usg_sgn xa]
  by_cases c7 : shp c = 7
  · have ht : tail1 ⟨c, a, b, d⟩ w = leB 1 a := by unfold tail1; repeat (first | rw [if_pos (by simp only; omega)] | rw [if_neg (by simp only; omega)])
    have hv : tkv s c = (⟨c, le (s.take 1).1, 0, []⟩, (s.take 1).2) := by unfold tkv; repeat (first | rw [if_pos (by omega)] | rw [if_neg (by omega)])
    rw [ht] at hb ⊢
    have hk := take_pre h0 hb
    rw [leB_length] at hk ⊢
    rw [hv, hk, if_neg (by omega), hb0 (by omega) (by omega), hd0 (by omega), le_leB_mod, Nat.mod_eq_of_lt (by simpa using ok7 c7)]
  by_cases c8 : shp c = 8
  · have ht : tail1 ⟨c, a, b, d⟩ w = leB 2 w := by unfold tail1; repeat (first | rw [if_pos (by simp only; omega)] | rw [if_neg (by simp only; omega)])
    have hv : tkv s c = (⟨c, ext (le (s.take 2).1) 2, 0, []⟩, (s.take 2).2) := by unfold tkv; repeat (first | rw [if_pos (by omega)] | rw [if_neg (by omega)])
    rw [ht] at hb ⊢
    have hk := take_pre h0 hb
    rw [leB_length] at hk ⊢
    rw [hv, hk, if_pos c8, hb0 (by omega) (by omega), hd0 (by omega), le_leB_mod, ext_mod]
  by_cases c9 : shp c = 9
  · have ht : tail1 ⟨c, a, b, d⟩ w = putU a ++ putS (sgn b) := by unfold tail1; repeat (first | rw [if_pos (by simp only; omega)] | rw [if_neg (by simp only; omega)])
    have hv : tkv s c = (⟨c, s.uleb.1, usg s.uleb.2.sleb.1, []⟩, s.uleb.2.sleb.2) := by unfold tkv; repeat (first | rw [if_pos (by omega)] | rw [if_neg (by omega)])
    rw [ht, List.append_assoc] at hb
    rw [ht]
    have h1 := uleb_putU xa h0 hb
    have h2 := sleb_putS (s := { s with pos := s.pos + (putU a).length }) (rest := rest) (sgn_range xb) h0 (drop_pre hb)
    rw [hv, h1, h2, if_neg (by omega), hd0 (by omega), usg_sgn xb, List.length_append, Nat.add_assoc]
  by_cases c10 : shp c = 10
  · have ht : tail1 ⟨c, a, b, d⟩ w = putU a ++ putU b := by unfold tail1; repeat (first | rw [if_pos (by simp only; omega)] | rw [if_neg (by simp only; omega)])
    have hv : tkv s c = (⟨c, s.uleb.1, s.uleb.2.uleb.1, []⟩, s.uleb.2.uleb.2) := by unfold tkv; repeat (first | rw [if_pos (by omega)] | rw [if_neg (by omega)])
    rw [ht, List.append_assoc] at hb
    rw [ht]
    have h1 := uleb_putU xa h0 hb
    have h2 := uleb_putU (s := { s with pos := s.pos + (putU a).length }) (rest := rest) xb h0 (drop_pre hb)
    rw [hv, h1, h2, if_neg (by omega), hd0 (by omega), List.length_append, Nat.add_assoc]
  have c11 : shp c = 11 := by omega
  have ht : tail1 ⟨c, a, b, d⟩ w = putU d.length ++ d := by unfold tail1; repeat (first | rw [if_pos (by simp only; omega)] | rw [if_neg (by simp only; omega)])
  have hv : tkv s c = (⟨c, 0, 0, (dat s).1⟩, (dat s).2) := by unfold tkv; repeat (first | rw [if_pos (by omega)] | rw [if_neg (by omega)])
  rw [ht, List.append_assoc] at hb
  rw [ht]
  have h1 := uleb_putU (n := d.length) (by omega) h0 hb
  have h2 := take_pre (s := { s with pos := s.pos + (putU d.length).length }) (rest := rest) (m := d) h0 (drop_pre hb)
  have hdt : dat s = (d, { s with pos := s.pos + (putU d.length).length + d.length }) := by
    unfold dat
    rw [h1, if_neg (by simp only; omega)]
    exact h2
  rw [hv, hdt, if_neg (by omega), hb0 (by omega) (by omega), show a = 0 by omega, List.length_append, Nat.add_assoc]

theorem tk1_put {x : OV} {w : Nat} {s : CS} {rest : List UInt8} (hx : x.In) (ok : okN x = true) (h0 : s.err = 0) (hb : s.b.drop s.pos = put1 x w ++ rest) :
    tk1 s = ({ x with a := if shp x.code = 8 then ext w 2 else x.a }, { s with pos := s.pos + (put1 x w).length }) := by
  have hc := shp_code (okN_d ok).2
  have h1 := take_one (rest := tail1 x w ++ rest) h0 hb
  have h2 := drop_next hb
  have hcode : ((le [UInt8.ofNat x.code.toNat] : Nat) : Int) = x.code := by
    simp only [le, UInt8.toNat_ofNat']; omega
  have h3 := tkv_put (s := { s with pos := s.pos + 1 }) (w := w) hx ok h0 h2
  unfold tk1
  rw [h1, if_neg (by simp only; omega), hcode, h3]
  simp only [put1, List.length_cons]
  rw [Nat.add_assoc, Nat.add_comm 1]

/-- What is read, ahead of the jumps. -/
def wl1 (l : List OV) (j : Nat) : OV := { l.getD j OV.zero with a := if shp (l.getD j OV.zero).code = 8 then ext (wOf l j) 2 else (l.getD j OV.zero).a }
def wl (l : List OV) (i : Nat) : List OV := (List.range i).map (wl1 l)
theorem wl_len (l : List OV) (i : Nat) : (wl l i).length = i := by simp [wl]
theorem wl_succ (l : List OV) (i : Nat) : wl l i ++ [wl1 l i] = wl l (i + 1) := by simp [wl, List.range_succ]
theorem PB_pre (l : List OV) (i : Nat) : ∀ n, ∃ r, PB l (i + n) = PB l i ++ r := by
  intro n
  induction n with
  | zero => exact ⟨[], by simp⟩
  | succ n ih =>
    obtain ⟨r, hr⟩ := ih
    exact ⟨r ++ put1 (l.getD (i + n) OV.zero) (wOf l (i + n)), by rw [← Nat.add_assoc, PB_succ, hr, List.append_assoc]⟩
theorem layB_at {l : List OV} {i : Nat} (h : i < l.length) : ∃ r, (layB l).drop (atL l i) = put1 (l.getD i OV.zero) (wOf l i) ++ r := by
  obtain ⟨r, hr⟩ := PB_pre l (i + 1) (l.length - (i + 1))
  rw [show i + 1 + (l.length - (i + 1)) = l.length by omega, PB_succ] at hr
  refine ⟨r, ?_⟩
  rw [layB, hr, List.append_assoc, ← PB_len (show i ≤ l.length by omega), List.drop_left']
  rfl
theorem layB_len (l : List OV) : (layB l).length = atL l l.length := PB_len (Nat.le_refl _)
theorem layOk_parts {l : List OV} (h : layOk l = true) : l.length ≤ 60 ∧ (∀ x ∈ l, okN x = true) ∧ ∀ i, i < l.length → jOk l i = true := by
  unfold layOk at h
  rw [Bool.and_eq_true, Bool.and_eq_true, decide_eq_true_eq] at h
  exact ⟨h.1, List.all_eq_true.1 h.2.1, fun i hi => List.all_eq_true.1 h.2.2 i (List.mem_range.2 hi)⟩
theorem tkA_lay {l : List OV} (hx : ∀ x ∈ l, x.In) (hok : layOk l = true) : ∀ (n i f : Nat), i + n = l.length → n < f →
    tkA f ⟨layB l, atL l i, 0⟩ (wl l i) (offs l i) = .inr (wl l l.length, offs l l.length) := by
  obtain ⟨p1, p2, p3⟩ := layOk_parts hok
  intro n
  induction n with
  | zero =>
    intro i f hi hf
    obtain ⟨f, rfl⟩ : ∃ g, f = g + 1 := ⟨f - 1, by omega⟩
    have hi' : i = l.length := by omega
    subst hi'
    have hl : (CS.mk (layB l) (atL l l.length) 0).left = 0 := by unfold CS.left; simp [layB_len]
    simp only [tkA, if_pos hl]
  | succ n ih =>
    intro i f hi hf
    obtain ⟨f, rfl⟩ : ∃ g, f = g + 1 := ⟨f - 1, by omega⟩
    have hil : i < l.length := by omega
    have hm := gd_mem (d := OV.zero) hil
    obtain ⟨r, hr⟩ := layB_at hil
    have hl : ¬ (CS.mk (layB l) (atL l i) 0).left = 0 := by
      have := congrArg List.length hr
      rw [List.length_drop, List.length_append] at this
      unfold CS.left
      simp only [if_true]
      simp only [put1, List.length_cons] at this; omega
    have ht := tk1_put (s := ⟨layB l, atL l i, 0⟩) (w := wOf l i) (rest := r) (hx _ hm) (p2 _ hm) rfl hr
    simp only [tkA, if_neg hl, wl_len, if_neg (show ¬ i = 60 by omega)]
    rw [ht, if_neg (by simp)]
    have hs := ih (i + 1) f (by omega) (by omega)
    rw [← wl_succ, ← offs_succ, atL_succ hil, ← put1_way _ (wOf l i) 0] at hs
    exact hs
theorem atL_lt {l : List OV} {i : Nat} (h : i < l.length) : atL l i < atL l (i + 1) := by rw [atL_succ h, put1, List.length_cons]; omega
theorem atL_mono {l : List OV} : ∀ (n i : Nat), i + n + 1 ≤ l.length → atL l i < atL l (i + n + 1) := by
  intro n
  induction n with
  | zero => intro i h; exact atL_lt (by omega)
  | succ n ih => intro i h; exact Nat.lt_trans (ih i (by omega)) (atL_lt (by omega))
theorem offs_sort {l : List OV} : ∀ i j, i < j → j < (offs l (l.length + 1)).length → (offs l (l.length + 1)).getD i 0 < (offs l (l.length + 1)).getD j 0 := by
  intro i j hij hj
  rw [offs_len] at hj
  rw [offs_at (by omega), offs_at hj]
  have := atL_mono (l := l) (j - i - 1) i (by omega)
  rwa [show i + (j - i - 1) + 1 = j by omega] at this
theorem P0_small {l : List OV} (hx : ∀ x ∈ l, x.In) (h : layOk l = true) : ∀ i, i ≤ l.length → atL l i ≤ 4200000 := by
  obtain ⟨p1, p2, p3⟩ := layOk_parts h
  intro i hi
  have h1 := P0_le (fun x hm => ⟨hx x hm, (okN_d (p2 x hm)).1⟩) p1 i hi
  have h2 : i * 70000 ≤ 60 * 70000 := Nat.mul_le_mul_right _ (by omega)
  exact Nat.le_trans h1 h2
theorem jmp_lay {l : List OV} {i : Nat} (hx : ∀ x ∈ l, x.In) (hok : layOk l = true) (h : i < l.length) : jmp (offs l (l.length + 1)) i (wl1 l i) = some (l.getD i OV.zero) := by
  obtain ⟨p1, p2, p3⟩ := layOk_parts hok
  have hj := of_decide_eq_true (p3 i h)
  unfold jmp wl1
  by_cases c8 : shp (l.getD i OV.zero).code = 8
  · simp only [c8, if_true]
    have hsm := P0_small hx hok
    obtain ⟨h1, h2⟩ := hj.resolve_left (fun e => e c8)
    have b1 := hsm (l.getD i OV.zero).a h1
    have b2 := hsm (i + 1) (by omega)
    have hwr : -4611686018427387904 ≤ wayI l i ∧ wayI l i < 4611686018427387904 := by omega
    have he := (way_ext hwr).2 h2
    rw [show wOf l i = wayU l i from if_pos c8, he]
    have hp : plc (offs l (l.length + 1)) (((offs l (l.length + 1)).getD (i + 1) 0 + wayU l i) % 18446744073709551616) = some (l.getD i OV.zero).a := by
      refine plc_some offs_sort (by rw [offs_len]; omega) ?_
      rw [offs_at (by omega), offs_at (by omega)]
      unfold wayU wayI; omega
    rw [hp]
    simp only [Option.map_some]
  · simp only [if_neg c8]
theorem tkJ_lay {l : List OV} (hx : ∀ x ∈ l, x.In) (hok : layOk l = true) : ∀ (n i : Nat), i + n = l.length → tkJ (offs l (l.length + 1)) i ((wl l l.length).drop i) = some (l.drop i) := by
  intro n
  induction n with
  | zero =>
    intro i hi
    rw [List.drop_of_length_le (by rw [wl_len]; omega), List.drop_of_length_le (by omega)]; rfl
  | succ n ih =>
    intro i hi
    have hil : i < l.length := by omega
    have hd : (wl l l.length).drop i = wl1 l i :: (wl l l.length).drop (i + 1) := by
      rw [List.drop_eq_getElem_cons (by rw [wl_len]; exact hil)]
      simp [wl]
    rw [hd, drop_at hil]
    simp only [tkJ, jmp_lay hx hok hil, ih (i + 1) (by omega)]
theorem oTake_of {b : List UInt8} {out m : List OV} {at_ : List Nat} (h : tkA 62 ⟨b, 0, 0⟩ [] [] = .inr (out, at_)) (hj : tkJ (at_ ++ [b.length]) 0 out = some m) : oTake b = (0, m) := by
  unfold oTake
  split
  · rename_i e he; rw [h] at he; cases he
  · rename_i o a he
    rw [h] at he
    simp only [Sum.inr.injEq, Prod.mk.injEq] at he
    obtain ⟨rfl, rfl⟩ := he
    rw [hj]
/-- What is put is taken as it was. -/
theorem take_put {l : List OV} (hx : ∀ x ∈ l, x.In) (hok : layOk l = true) : oTake (layB l) = (0, l) := by
  have h1 := (layOk_parts hok).1
  have ht : ∀ s : CS, s = ⟨layB l, atL l 0, 0⟩ → tkA 62 s (wl l 0) (offs l 0) = .inr (wl l l.length, offs l l.length) := fun s e => by
    rw [e]; exact tkA_lay hx hok l.length 0 62 (by omega) (by omega)
  have hj := tkJ_lay hx hok l.length 0 (by omega)
  rw [List.drop_zero, List.drop_zero] at hj
  refine oTake_of (ht _ rfl) ?_
  rw [layB_len, offs_succ, hj]
end Go.Ab
end

section
/- What is taken may be. -/
namespace Go.Ab
open V Go.Proofs
set_option maxHeartbeats 4000000
set_option maxRecDepth 10000
set_option linter.unusedSimpArgs false
set_option linter.unusedVariables false

theorem take_pos {s : CS} {n : Nat} (h0 : s.err = 0) (h : (s.take n).2.err = 0) : (s.take n).2.pos = s.pos + n := by
  unfold CS.take at *
  rw [if_pos h0] at *
  split
  · rfl
  · rename_i hc; rw [if_neg hc] at h; simp at h
theorem fail_ne {s : CS} {e : Int} (he : e ≠ 0) : (s.fail e).err ≠ 0 := by
  unfold CS.fail; split
  · exact he
  · assumption
theorem seven_pos : ∀ (k : Nat) (s s2 : CS) (l : List Nat), s.err = 0 → seven k s = (some l, s2) → s2.pos = s.pos + l.length ∧ s2.err = 0 := by
  intro k
  induction k with
  | zero => intro s s2 l h0 h; simp [seven] at h
  | succ k ih =>
    intro s s2 l h0 h
    simp only [seven] at h
    split at h
    · rename_i he
      have hp := take_pos h0 he
      split at h
      · simp only [Prod.mk.injEq, Option.some.injEq] at h
        obtain ⟨rfl, rfl⟩ := h
        exact ⟨hp, he⟩
      · split at h
        · rename_i l' s2' e
          simp only [Prod.mk.injEq, Option.some.injEq] at h
          obtain ⟨rfl, rfl⟩ := h
          obtain ⟨h1, h2⟩ := ih _ _ _ he e
          exact ⟨by rw [h1, hp, List.length_cons]; omega, h2⟩
        · simp at h
    · simp at h
theorem putS_len (n : Int) : (putS n).length = (partsS n).length := by
  have := partsS_ne n
  unfold putS
  rw [List.length_append]
  simp only [enc, List.length_map, List.length_dropLast, List.length_cons, List.length_nil]
  have : 0 < (partsS n).length := List.length_pos_iff.2 this
  omega
theorem uleb_fit {s : CS} (hs : s.Ok) (h0 : s.err = 0) (he : s.uleb.2.err = 0) : s.pos + (putU s.uleb.1).length ≤ s.uleb.2.pos := by
  have h7 := (seven_ok 10 s hs).2.2
  unfold CS.uleb at *
  split at he
  · rename_i l s2 e
    obtain ⟨k1, k2, k3⟩ := h7 l (by rw [e])
    obtain ⟨p1, p2⟩ := seven_pos 10 s s2 l h0 e
    split at he
    · exact absurd he (fail_ne (by decide))
    · rename_i hc
      simp only [e, if_neg hc]
      rw [putU_len, p1]
      have := val7_lt l k3
      have h2 := parts_len (k := l.length - 1) (n := val7 l) (by rwa [show l.length - 1 + 1 = l.length by omega])
      omega
  · rename_i s2 e
    exfalso
    -- none always comes with an error
    have : ∀ (k : Nat) (s s2 : CS), seven k s = (none, s2) → s2.err ≠ 0 := seven_none
    exact this 10 s s2 e he
where seven_none : ∀ (k : Nat) (s s2 : CS), seven k s = (none, s2) → s2.err ≠ 0 := by
        intro k
        induction k with
        | zero => intro s s2 h; simp only [seven, Prod.mk.injEq] at h; rw [← h.2]; exact fail_ne (by decide)
        | succ k ih =>
          intro s s2 h
          simp only [seven] at h
          split at h
          · split at h
            · simp at h
            · split at h
              · simp at h
              · rename_i s2' e
                simp only [Prod.mk.injEq] at h
                rw [← h.2]; exact ih _ _ e
          · rename_i he
            simp only [Prod.mk.injEq] at h
            rw [← h.2]; exact he
theorem sleb_fit {s : CS} (hs : s.Ok) (h0 : s.err = 0) (he : s.sleb.2.err = 0) : s.pos + (putS s.sleb.1).length ≤ s.sleb.2.pos ∧ (-9223372036854775808 ≤ s.sleb.1 ∧ s.sleb.1 < 9223372036854775808) := by
  have h7 := (seven_ok 10 s hs).2.2
  unfold CS.sleb at *
  split at he
  · rename_i l s2 e
    obtain ⟨k1, k2, k3⟩ := h7 l (by rw [e])
    obtain ⟨p1, p2⟩ := seven_pos 10 s s2 l h0 e
    split at he
    · exact absurd he (fail_ne (by decide))
    · rename_i hc
      simp only [e, if_neg hc]
      rw [putS_len, p1]
      have hb := sval_bound k1 k3
      have h2 := partsS_len' (l.length - 1) (sval l) (by push_cast; exact hb)
      refine ⟨by omega, ?_⟩
      by_cases h10 : l.length = 10
      · have hl := sval_last k1
        have h9 : l.length - 1 = 9 := by omega
        rw [h9] at hl
        have ht := val7_lt (l.take 9) (fun x hx => k3 x (List.mem_of_mem_take hx))
        have htl : (l.take 9).length = 9 := by rw [List.length_take]; omega
        rw [htl] at ht
        have hpow : (128 : Nat) ^ 9 = 9223372036854775808 := by decide
        rw [hpow] at ht
        have hc2 : l.getD 9 0 = 0 ∨ l.getD 9 0 = 127 := by
          by_cases q : l.getD 9 0 = 0
          · exact .inl q
          · by_cases q2 : l.getD 9 0 = 127
            · exact .inr q2
            · exact absurd ⟨h10, q, q2⟩ hc
        have hpi : (2 : Int) ^ (7 * 9) = 9223372036854775808 := by decide
        rcases hc2 with q | q
        · rw [q] at hl; simp at hl; omega
        · rw [q] at hl; simp at hl; omega
      · have h8 : l.length - 1 ≤ 8 := by omega
        have hp : (128 : Int) ^ (l.length - 1) ≤ 128 ^ 8 := by
          have := Nat.pow_le_pow_right (show 0 < 128 by decide) h8
          exact_mod_cast this
        have h128 : (128 : Int) ^ 8 = 72057594037927936 := by decide
        rw [h128] at hp
        omega
  · rename_i s2 e
    exact absurd he (uleb_fit.seven_none 10 s s2 e)
theorem ext_ext {n k : Nat} (hk : k = 1 ∨ k = 2 ∨ k = 4 ∨ k = 8) : ext (ext n k) k = ext n k := by
  unfold ext
  rcases hk with rfl | rfl | rfl | rfl <;> simp only [Nat.reducePow, Nat.reduceMul, Nat.reduceSub] <;> (repeat' split) <;> omega
theorem sgn_usg {z : Int} (h : -9223372036854775808 ≤ z ∧ z < 9223372036854775808) : sgn (usg z) = z := by unfold sgn usg; split <;> omega
end Go.Ab
end

section
/- What is taken may be: all of it. -/
namespace Go.Ab
open V Go.Proofs
set_option maxHeartbeats 4000000
set_option maxRecDepth 10000
set_option linter.unusedSimpArgs false
set_option linter.unusedVariables false

theorem okN_mk {c : Int} {a b : Nat} {d : List UInt8} (hb : ¬ badN ⟨c, a, b, d⟩) (h3 : shp c = 3 → a < 256 ^ szo c) (h4 : shp c = 4 → ext a (szo c) = a) (h7 : shp c = 7 → a < 256) : okN ⟨c, a, b, d⟩ = true := by
  by_cases c3 : shp c = 3
  · rw [okN_3 hb c3]; exact decide_eq_true (Nat.div_eq_of_lt (h3 c3))
  by_cases c4 : shp c = 4
  · rw [okN_4 hb c4]; exact decide_eq_true (h4 c4)
  by_cases c7 : shp c = 7
  · rw [okN_7 hb c7]; exact decide_eq_true (h7 c7)
  · exact okN_o hb ⟨c3, c4, c7⟩
theorem bad_no {c : Int} {a b : Nat} {d : List UInt8} (h0 : shp c ≠ 0) (h1 : (shp c = 1 ∨ shp c = 11) → a = 0) (h2 : shp c ≠ 9 → shp c ≠ 10 → b = 0) (h3 : shp c ≠ 11 → d.length = 0) (h4 : d.length ≤ 65536) : ¬ badN ⟨c, a, b, d⟩ := by
  unfold badN
  simp only
  omega
theorem tkv_good {s : CS} {c : Int} (hs : s.Ok) (h0 : s.err = 0) (he : (tkv s c).2.err = 0) : okN (tkv s c).1 = true ∧ s.pos + (tail1 (tkv s c).1 0).length ≤ (tkv s c).2.pos := by
  have hr := shp_range c
  have hsz := szo_or c
  have l1 : ∀ n, le (s.take n).1 < 256 ^ n := fun n => Nat.lt_of_lt_of_le (le_lt _) (Nat.pow_le_pow_right (by decide) (take_len s n))
  by_cases c0 : shp c = 0
  · have hv : tkv s c = (⟨c, 0, 0, []⟩, s.fail 46) := if_pos c0
    rw [hv] at he
    exact absurd he (fail_ne (by decide))
  by_cases c1 : shp c = 1
  · have hv : tkv s c = (⟨c, 0, 0, []⟩, s) := by unfold tkv; repeat (first | rw [if_pos (by omega)] | rw [if_neg (by omega)])
    have ht : tail1 ⟨c, 0, 0, []⟩ 0 = [] := by unfold tail1; repeat (first | rw [if_pos (by simp only; omega)] | rw [if_neg (by simp only; omega)])
    rw [hv]
    refine ⟨okN_mk (bad_no c0 (fun _ => rfl) (fun _ _ => rfl) (fun _ => rfl) (by simp)) (by omega) (by omega) (by omega), ?_⟩
    rw [ht]; exact Nat.le_refl _
  by_cases c2 : shp c = 2
  · have hv : tkv s c = (⟨c, le (s.take 8).1, 0, []⟩, (s.take 8).2) := by unfold tkv; repeat (first | rw [if_pos (by omega)] | rw [if_neg (by omega)])
    have ht : ∀ a, tail1 ⟨c, a, 0, []⟩ 0 = leB 8 a := fun a => by unfold tail1; repeat (first | rw [if_pos (by simp only; omega)] | rw [if_neg (by simp only; omega)])
    rw [hv] at he ⊢
    refine ⟨okN_mk (bad_no c0 (by omega) (fun _ _ => rfl) (fun _ => rfl) (by simp)) (by omega) (by omega) (by omega), ?_⟩
    rw [ht, leB_length, take_pos h0 he]; exact Nat.le_refl _
  by_cases c3 : shp c = 3
  · have hv : tkv s c = (⟨c, le (s.take (szo c)).1, 0, []⟩, (s.take (szo c)).2) := by unfold tkv; repeat (first | rw [if_pos (by omega)] | rw [if_neg (by omega)])
    have ht : ∀ a, tail1 ⟨c, a, 0, []⟩ 0 = leB (szo c) a := fun a => by unfold tail1; repeat (first | rw [if_pos (by simp only; omega)] | rw [if_neg (by simp only; omega)])
    rw [hv] at he ⊢
    refine ⟨okN_mk (bad_no c0 (by omega) (fun _ _ => rfl) (fun _ => rfl) (by simp)) (fun _ => l1 _) (by omega) (by omega), ?_⟩
    rw [ht, leB_length, take_pos h0 he]; exact Nat.le_refl _
  by_cases c4 : shp c = 4
  · have hv : tkv s c = (⟨c, ext (le (s.take (szo c)).1) (szo c), 0, []⟩, (s.take (szo c)).2) := by unfold tkv; repeat (first | rw [if_pos (by omega)] | rw [if_neg (by omega)])
    have ht : ∀ a, tail1 ⟨c, a, 0, []⟩ 0 = leB (szo c) a := fun a => by unfold tail1; repeat (first | rw [if_pos (by simp only; omega)] | rw [if_neg (by simp only; omega)])
    rw [hv] at he ⊢
    refine ⟨okN_mk (bad_no c0 (by omega) (fun _ _ => rfl) (fun _ => rfl) (by simp)) (by omega) (fun _ => ext_ext hsz) (by omega), ?_⟩
    rw [ht, leB_length, take_pos h0 he]; exact Nat.le_refl _
  by_cases c5 : shp c = 5
  · have hv : tkv s c = (⟨c, s.uleb.1, 0, []⟩, s.uleb.2) := by unfold tkv; repeat (first | rw [if_pos (by omega)] | rw [if_neg (by omega)])
    have ht : ∀ a, tail1 ⟨c, a, 0, []⟩ 0 = putU a := fun a => by unfold tail1; repeat (first | rw [if_pos (by simp only; omega)] | rw [if_neg (by simp only; omega)])
    rw [hv] at he ⊢
    refine ⟨okN_mk (bad_no c0 (by omega) (fun _ _ => rfl) (fun _ => rfl) (by simp)) (by omega) (by omega) (by omega), ?_⟩
    rw [ht]; exact uleb_fit hs h0 he
  by_cases c6 : shp c = 6
  · have hv : tkv s c = (⟨c, usg s.sleb.1, 0, []⟩, s.sleb.2) := by unfold tkv; repeat (first | rw [if_pos (by omega)] | rw [if_neg (by omega)])
    have ht : ∀ a, tail1 ⟨c, a, 0, []⟩ 0 = putS (sgn a) := fun a => by unfold tail1; repeat (first | rw [if_pos (by simp only; omega)] | rw [if_neg (by simp only; omega)])
    rw [hv] at he ⊢
    obtain ⟨f1, f2⟩ := sleb_fit hs h0 he
    refine ⟨okN_mk (bad_no c0 (by omega) (fun _ _ => rfl) (fun _ => rfl) (by simp)) (by omega) (by omega) (by omega), ?_⟩
    rw [ht, sgn_usg f2]; exact f1
  by_cases c7 : shp c = 7
  · have hv : tkv s c = (⟨c, le (s.take 1).1, 0, []⟩, (s.take 1).2) := by unfold tkv; repeat (first | rw [if_pos (by omega)] | rw [if_neg (by omega)])
    have ht : ∀ a, tail1 ⟨c, a, 0, []⟩ 0 = leB 1 a := fun a => by unfold tail1; repeat (first | rw [if_pos (by simp only; omega)] | rw [if_neg (by simp only; omega)])
    rw [hv] at he ⊢
    refine ⟨okN_mk (bad_no c0 (by omega) (fun _ _ => rfl) (fun _ => rfl) (by simp)) (by omega) (by omega) (fun _ => l1 1), ?_⟩
    rw [ht, leB_length, take_pos h0 he]; exact Nat.le_refl _
  by_cases c8 : shp c = 8
  · have hv : tkv s c = (⟨c, ext (le (s.take 2).1) 2, 0, []⟩, (s.take 2).2) := by unfold tkv; repeat (first | rw [if_pos (by omega)] | rw [if_neg (by omega)])
    have ht : ∀ a, tail1 ⟨c, a, 0, []⟩ 0 = leB 2 0 := fun a => by unfold tail1; repeat (first | rw [if_pos (by simp only; omega)] | rw [if_neg (by simp only; omega)])
    rw [hv] at he ⊢
    refine ⟨okN_mk (bad_no c0 (by omega) (fun _ _ => rfl) (fun _ => rfl) (by simp)) (by omega) (by omega) (by omega), ?_⟩
    rw [ht, leB_length, take_pos h0 he]; exact Nat.le_refl _
  by_cases c9 : shp c = 9
  · have hv : tkv s c = (⟨c, s.uleb.1, usg s.uleb.2.sleb.1, []⟩, s.uleb.2.sleb.2) := by unfold tkv; repeat (first | rw [if_pos (by omega)] | rw [if_neg (by omega)])
    have ht : ∀ a b, tail1 ⟨c, a, b, []⟩ 0 = putU a ++ putS (sgn b) := fun a b => by unfold tail1; repeat (first | rw [if_pos (by simp only; omega)] | rw [if_neg (by simp only; omega)])
    rw [hv] at he ⊢
    have hu : s.uleb.2.err = 0 := by
      by_cases q : s.uleb.2.err = 0
      · exact q
      · simp only [CS.sleb_err q] at he; exact absurd he q
    have f0 := uleb_fit hs h0 hu
    obtain ⟨f1, f2⟩ := sleb_fit hs.uleb hu he
    refine ⟨okN_mk (bad_no c0 (by omega) (by omega) (fun _ => rfl) (by simp)) (by omega) (by omega) (by omega), ?_⟩
    rw [ht, sgn_usg f2, List.length_append]; simp only; omega
  by_cases c10 : shp c = 10
  · have hv : tkv s c = (⟨c, s.uleb.1, s.uleb.2.uleb.1, []⟩, s.uleb.2.uleb.2) := by unfold tkv; repeat (first | rw [if_pos (by omega)] | rw [if_neg (by omega)])
    have ht : ∀ a b, tail1 ⟨c, a, b, []⟩ 0 = putU a ++ putU b := fun a b => by unfold tail1; repeat (first | rw [if_pos (by simp only; omega)] | rw [if_neg (by simp only; omega)])
    rw [hv] at he ⊢
    have hu : s.uleb.2.err = 0 := by
      by_cases q : s.uleb.2.err = 0
      · exact q
      · simp only [CS.uleb_err q] at he; exact absurd he q
    have f0 := uleb_fit hs h0 hu
    have f1 := uleb_fit hs.uleb hu he
    refine ⟨okN_mk (bad_no c0 (by omega) (by omega) (fun _ => rfl) (by simp)) (by omega) (by omega) (by omega), ?_⟩
    rw [ht, List.length_append]; simp only; omega
  have c11 : shp c = 11 := by omega
  have hv : tkv s c = (⟨c, 0, 0, (dat s).1⟩, (dat s).2) := by unfold tkv; repeat (first | rw [if_pos (by omega)] | rw [if_neg (by omega)])
  have ht : ∀ d, tail1 ⟨c, 0, 0, d⟩ 0 = putU d.length ++ d := fun d => by unfold tail1; repeat (first | rw [if_pos (by simp only; omega)] | rw [if_neg (by simp only; omega)])
  rw [hv] at he ⊢
  have hdl := dat_len s
  refine ⟨okN_mk (bad_no c0 (fun _ => rfl) (fun _ _ => rfl) (by omega) hdl) (by omega) (by omega) (by omega), ?_⟩
  rw [ht, List.length_append]
  simp only
  have hbig : ¬ s.uleb.1 > 65536 := fun q => by
    unfold dat at he
    rw [if_pos q, CS.take_err (fail_ne (by decide))] at he
    exact absurd he (fail_ne (by decide))
  have hd : dat s = s.uleb.2.take s.uleb.1 := by unfold dat; rw [if_neg hbig]
  rw [hd] at he ⊢
  have hu : s.uleb.2.err = 0 := by
    by_cases q : s.uleb.2.err = 0
    · exact q
    · rw [CS.take_err q] at he; exact absurd he q
  have f0 := uleb_fit hs h0 hu
  have f1 := take_pos hu he
  have f2 : (s.uleb.2.take s.uleb.1).1.length = s.uleb.1 := by
    unfold CS.take at he ⊢
    rw [if_pos hu] at he ⊢
    split
    · rename_i q
      have := hs.uleb.1
      simp only [List.length_drop, List.length_take]; omega
    · rename_i q; rw [if_neg q] at he; simp at he
  rw [f2, f1]; omega
theorem tk1_good {s : CS} (hs : s.Ok) (h0 : s.err = 0) (he : (tk1 s).2.err = 0) : okN (tk1 s).1 = true ∧ s.pos + (put1 (tk1 s).1 0).length ≤ (tk1 s).2.pos := by
  unfold tk1 at *
  split
  · rename_i hc; rw [if_pos hc] at he; exact absurd he hc
  · rename_i hc
    rw [if_neg hc] at he
    have h1 := take1_pos h0 (by omega)
    obtain ⟨g1, g2⟩ := tkv_good (hs.take 1) (by omega) he
    refine ⟨g1, ?_⟩
    rw [put1, List.length_cons]; omega
theorem P0_snoc (l : List OV) (x : OV) : (P0 (l ++ [x])).length = (P0 l).length + (put1 x 0).length := by
  rw [P0_app, List.length_append]; simp [P0]
theorem tkA_good : ∀ (f : Nat) (s : CS) (out : List OV) (at_ : List Nat) (out' : List OV) (at' : List Nat), tkA f s out at_ = .inr (out', at') → s.Ok → s.err = 0 →
    (∀ x ∈ out, x.In ∧ okN x = true) → (P0 out).length ≤ s.pos → out.length ≤ 60 → at_.length = out.length →
    (∀ x ∈ out', x.In ∧ okN x = true) ∧ (P0 out').length ≤ s.b.length ∧ out'.length ≤ 60 ∧ at'.length = out'.length := by
  intro f
  induction f with
  | zero => intro s out at_ out' at' h; simp [tkA] at h
  | succ f ih =>
    intro s out at_ out' at' h hs h0 hg hp hl ha
    simp only [tkA] at h
    split at h
    · simp only [Sum.inr.injEq, Prod.mk.injEq] at h
      obtain ⟨rfl, rfl⟩ := h
      exact ⟨hg, Nat.le_trans hp hs.1, hl, ha⟩
    · split at h
      · cases h
      · rename_i hl60
        split at h
        · cases h
        · rename_i he
          have he' : (tk1 s).2.err = 0 := by omega
          obtain ⟨g1, g2⟩ := tk1_good hs h0 he'
          have ht := tk1_ok hs
          have := ih _ _ _ _ _ h ht.1 he' (fun x hx => by
            rcases List.mem_append.1 hx with hx | hx
            · exact hg x hx
            · rw [List.mem_singleton.1 hx]; exact ⟨tk1_in hs, g1⟩) (by rw [P0_snoc]; omega) (by rw [List.length_append, List.length_singleton]; omega) (by rw [List.length_append, List.length_append, ha]; rfl)
          rw [ht.2] at this
          exact this
theorem okN_jump {x : OV} {k : Nat} (h : okN x = true) (h8 : shp x.code = 8) : okN { x with a := k } = true := by
  have hb := okN_bad' h
  unfold badN at hb
  exact okN_mk (bad_no (by omega) (by omega) (by omega) (by omega) (by omega)) (by omega) (by omega) (by omega)
theorem put1_a {x : OV} {k : Nat} (h8 : shp x.code = 8) : (put1 { x with a := k } 0).length = (put1 x 0).length := by
  rw [put1_jump h8, put1_jump (x := { x with a := k }) h8]
theorem tkJ_good (A : List Nat) (hA : A.length ≤ 61) : ∀ (out m : List OV) (i : Nat), tkJ A i out = some m → (∀ x ∈ out, x.In ∧ okN x = true) →
    (∀ x ∈ m, x.In ∧ okN x = true ∧ (shp x.code = 8 → x.a < A.length)) ∧ (P0 m).length = (P0 out).length ∧ m.length = out.length := by
  intro out
  induction out with
  | nil => intro m i h _; simp only [tkJ, Option.some.injEq] at h; subst h; exact ⟨by simp, rfl, rfl⟩
  | cons x r ih =>
    intro m i h hg
    simp only [tkJ] at h
    split at h
    · rename_i y m' hy hm
      simp only [Option.some.injEq] at h
      subst h
      obtain ⟨i1, i2, i3⟩ := ih m' (i + 1) hm (fun z hz => hg z (by simp [hz]))
      have hx := hg x (by simp)
      have hyy : (y.In ∧ okN y = true ∧ (shp y.code = 8 → y.a < A.length)) ∧ (put1 y 0).length = (put1 x 0).length := by
        unfold jmp at hy
        split at hy
        · rename_i c8
          obtain ⟨k, hk, rfl⟩ := Option.map_eq_some_iff.1 hy
          have hkl := (plc_get hk).1
          exact ⟨⟨⟨by simp only; omega, hx.1.b, hx.1.d⟩, okN_jump hx.2 c8, fun _ => hkl⟩, put1_a c8⟩
        · rename_i c8
          simp only [Option.some.injEq] at hy
          subst hy
          exact ⟨⟨hx.1, hx.2, fun e => absurd e c8⟩, rfl⟩
      refine ⟨fun z hz => ?_, ?_, by simp [i3]⟩
      · rcases List.mem_cons.1 hz with rfl | hz
        · exact hyy.1
        · exact i1 z hz
      · rw [P0_cons, P0_cons, List.length_append, List.length_append, hyy.2, i2]
    · cases h
theorem atL_le (l : List OV) (i : Nat) : atL l i ≤ (P0 l).length := by
  conv => rhs; rw [← List.take_append_drop i l, P0_app, List.length_append]
  rw [atL]; omega
/-- What is taken of any bytes may be. -/
theorem take_lay {b : List UInt8} {m : List OV} (hb : b.length ≤ 2000) (h : oTake b = (0, m)) : (∀ x ∈ m, x.In) ∧ layOk m = true := by
  unfold oTake at h
  split at h
  · rename_i e he
    exfalso
    -- an error is not zero
    simp only [Prod.mk.injEq] at h
    rw [h.1] at he
    exact tkA_err 62 ⟨b, 0, 0⟩ [] [] he
  · rename_i out at_ ha
    split at h
    · rename_i m' hm
      simp only [Prod.mk.injEq, true_and] at h
      subst h
      have hs : (CS.mk b 0 0).Ok := ⟨Nat.zero_le _, by show b.length < _; omega, by show (0 : Int) ≤ 0; decide, by show (0 : Int) < 1000000; decide⟩
      obtain ⟨g1, g2, g3, g4⟩ := tkA_good 62 ⟨b, 0, 0⟩ [] [] out at_ ha hs rfl (by simp) (Nat.zero_le _) (by decide) rfl
      have hAl : (at_ ++ [b.length]).length = out.length + 1 := by rw [List.length_append, g4]; rfl
      obtain ⟨j1, j2, j3⟩ := tkJ_good (at_ ++ [b.length]) (by omega) out m' 0 hm g1
      refine ⟨fun x hx => (j1 x hx).1, ?_⟩
      unfold layOk
      rw [decide_eq_true (by omega), Bool.true_and, Bool.and_eq_true]
      refine ⟨List.all_eq_true.2 fun x hx => (j1 x hx).2.1, List.all_eq_true.2 fun i hi => ?_⟩
      have hil := List.mem_range.1 hi
      have hmem := j1 _ (gd_mem (d := OV.zero) hil)
      by_cases c8 : shp (m'.getD i OV.zero).code = 8
      · have h1 := hmem.2.2 c8
        have h2 := atL_le m' (m'.getD i OV.zero).a
        have h3 := atL_le m' (i + 1)
        simp only at g2
        exact decide_eq_true (.inr ⟨by omega, by unfold wayI; omega, by unfold wayI; omega⟩)
      · exact decide_eq_true (.inl c8)
    · simp at h
where tkA_err : ∀ (f : Nat) (s : CS) (out : List OV) (at_ : List Nat), tkA f s out at_ ≠ .inl 0 := by
        intro f
        induction f with
        | zero => intro s out at_ h; simp [tkA] at h
        | succ f ih =>
          intro s out at_ h
          simp only [tkA] at h
          split at h
          · cases h
          · split at h
            · simp at h
            · split at h
              · rename_i he; simp only [Sum.inl.injEq] at h; exact he h
              · exact ih _ _ _ h
theorem take_err {b : List UInt8} (h : (oTake b).1 ≠ 0) : (oTake b).2 = [] := by
  unfold oTake at *
  split
  · rfl
  · rename_i out at_ ha
    rw [ha] at h
    simp only at h ⊢
    split
    · rename_i m hm; rw [hm] at h; exact absurd rfl h
    · rfl
end Go.Ab
end

section
/- The function that lays operations. -/
namespace Go.Ab
open V Go.Proofs
set_option maxHeartbeats 16000000
set_option maxRecDepth 10000
set_option linter.unusedSimpArgs false
set_option linter.unusedVariables false

theorem bA_flat (l : List UInt8) : flat (bA l) = bA l := by
  induction l with
  | nil => rfl
  | cons x l ih => show flat (byteA x :: bA l) = byteA x :: bA l; rw [flat_cons, ih]; rfl
theorem bA_all_f (l : List UInt8) : (bA l).all flagless = true := by rw [← flaglessL_all]; exact bA_flagless l
theorem bA_all_s (l : List UInt8) : (bA l).all solid = true := by rw [List.all_eq_true]; intro v hv; obtain ⟨x, _, rfl⟩ := List.mem_map.1 hv; rfl
theorem bA_all_l (l : List UInt8) (n : Nat) : (bA l).all (V.low n) = true := by rw [← lowL_all]; exact bA_low n l
theorem take_set_le {α : Type} {l : List α} {n k : Nat} {x : α} (h : n ≤ k) : (l.set k x).take n = l.take n := by
  apply List.ext_getElem?
  intro i
  rw [List.getElem?_take, List.getElem?_take]
  split
  · rw [List.getElem?_set, if_neg (by omega)]
  · rfl
theorem thaw_bytes {N i n : Nat} {G : Heap} {l : List UInt8} (h : G[i]? = some (.cells (bA l))) (hN : N ≤ i) (hn : n = l.length) : thaw1 N 1 false G (.win (i, 0) n ()) = some (.sl (bA l) none ()) := by
  subst hn
  have h1 : (bA l).all flagless = true := by rw [← flaglessL_all]; exact bA_flagless l
  have h2 : (bA l).all solid = true := by rw [List.all_eq_true]; intro v hv; obtain ⟨x, _, rfl⟩ := List.mem_map.1 hv; rfl
  have h3 : (bA l).all (V.low N) = true := by rw [← lowL_all]; exact bA_low N l
  simp only [thaw1, h, if_neg (show ¬ i < N by omega)]
  rw [if_pos ⟨h1, h2, h3, by rw [bA_length]; omega, by simp⟩]
  simp only [elems, cond_false, List.drop_zero]
  rw [List.take_of_length_le (by rw [bA_length]; exact Nat.le_refl _)]
theorem layOk_no {l : List OV} {i : Nat} (h : i < l.length) (hj : jOk l i = false) : layOk l = false := by
  have : (List.range l.length).all (jOk l) = false := by
    rw [Bool.eq_false_iff]; intro e
    have := List.all_eq_true.1 e i (List.mem_range.2 h)
    rw [hj] at this; cases this
  rw [layOk, this, Bool.and_false, Bool.and_false]
section
variable {H : Heap} {Q : A → Heap → Prop}
theorem laid_spec {l : List OV} (hx : ∀ x ∈ l, x.In) (hl : l.length < 9223372036854775807)
    (h0 : layOk l = false → Q (.tup [.sl [] (some 0) (), .bool false]) H) (h : layOk l = true → Q (.tup [.sl (bA (layB l)) none (), .bool true]) H) :
    AC Try.prog 35 [.sl (oA l) none ()] H Q := by
  refine AC.thaw 1 false (by decide) ?_
  have fin0 : layOk l = false → ∀ G : Heap, G.take H.length = H → ∃ r', thawA H.length 1 false G (.tup [.sl [] (some 0) (), .bool false]) = some r' ∧ Q r' (G.take H.length) := by
    intro e G hG
    exact ⟨_, rfl, by rw [hG]; exact h0 e⟩
  refine AC.enter (E := env Try.prog 83 (fun t => if t == 24 || t == 29 || t == 33 then .take else .copy) (fun _ => false)) env_ok Try.func35 rfl rfl rfl (by simp only [List.length_cons, List.length_nil]; exact of_decide_eq_true rfl) ?_
  by_cases c60 : (l.length : Int) > 60
  · have hno : layOk l = false := by rw [layOk, decide_eq_false (by omega), Bool.false_and]
    ((try first | refine walk_aw env_ok (none) ?_ | refine walk_aw envR_ok (none) ?_); try simp -implicitDefEqProofs (maxSteps := 1000000) only [go_sem, ↓reduceIte, reduceCtorEq, Nat.reduceLT, Nat.reduceEqDiff, Nat.reduceBEq, Nat.reduceAdd, Nat.reduceMul, Nat.reduceSub, Nat.reduceLeDiff, Int.reduceNeg, Int.reduceLT, Int.reduceLE, Int.reduceEq, Int.reduceAdd, Int.reduceToNat, c60])
    exact .inl (fin0 hno _ (by rw [List.take_length]))
  ((try first | refine walk_aw env_ok (some (fun t => t == 25 || t == 34)) ?_ | refine walk_aw envR_ok (some (fun t => t == 25 || t == 34)) ?_); try simp -implicitDefEqProofs (maxSteps := 1000000) only [go_sem, ↓reduceIte, reduceCtorEq, Nat.reduceLT, Nat.reduceEqDiff, Nat.reduceBEq, Nat.reduceAdd, Nat.reduceMul, Nat.reduceSub, Nat.reduceLeDiff, Int.reduceNeg, Int.reduceLT, Int.reduceLE, Int.reduceEq, Int.reduceAdd, Int.reduceToNat, c60])
  refine ContainsFunc_spec (p := fun x => !okN x) (fun x hxm G R hR => laid1_spec (hx x hxm) hR) hl ?_
  cases hall : l.all okN with
  | false =>
    have hno : layOk l = false := by rw [layOk, hall, Bool.false_and, Bool.and_false]
    have hany : l.any (fun x => !okN x) = true := by rw [← Bool.not_eq_false', ← List.not_all_eq_any_not] at *; simpa using hall
    rw [hany]
    ((try first | refine walk_aw env_ok (none) ?_ | refine walk_aw envR_ok (none) ?_); try simp -implicitDefEqProofs (maxSteps := 1000000) only [go_sem, ↓reduceIte, reduceCtorEq, Nat.reduceLT, Nat.reduceEqDiff, Nat.reduceBEq, Nat.reduceAdd, Nat.reduceMul, Nat.reduceSub, Nat.reduceLeDiff, Int.reduceNeg, Int.reduceLT, Int.reduceLE, Int.reduceEq, Int.reduceAdd, Int.reduceToNat, c60])
    exact .inl (fin0 hno _ (by rw [List.take_length]))
  | true =>
    have hany : l.any (fun x => !okN x) = false := by
      rw [Bool.eq_false_iff]; intro e
      obtain ⟨x, hxm, hxe⟩ := List.any_eq_true.1 e
      have := List.all_eq_true.1 hall x hxm
      rw [this] at hxe; cases hxe
    rw [hany]
    have hok : ∀ x ∈ l, x.In ∧ x.d.length ≤ 65536 := fun x hxm => ⟨hx x hxm, (okN_d (List.all_eq_true.1 hall x hxm)).1⟩
    have hl60 : l.length ≤ 60 := by omega
    have hle := P0_le hok hl60
    ((try first | refine walk_aw env_ok (none) ?_ | refine walk_aw envR_ok (none) ?_); try simp -implicitDefEqProofs (maxSteps := 1000000) only [go_sem, ↓reduceIte, reduceCtorEq, Nat.reduceLT, Nat.reduceEqDiff, Nat.reduceBEq, Nat.reduceAdd, Nat.reduceMul, Nat.reduceSub, Nat.reduceLeDiff, Int.reduceNeg, Int.reduceLT, Int.reduceLE, Int.reduceEq, Int.reduceAdd, Int.reduceToNat, c60])
    refine AW.loop (fun st => ∃ i : Nat, st.σ 0 = .sl (oA l) none () ∧ st.σ 18 = .sl (oA l) none () ∧ st.σ 19 = .int .i64 l.length ∧ st.σ 20 = .int .i64 i ∧ st.σ 4 = .sl (bA (P0 (l.take i))) (some 0) () ∧ st.σ 5 = .sl (nA (offs l i)) (some 0) () ∧ i ≤ l.length ∧ st.H.take H.length = H ∧ H.length ≤ st.H.length)
      (fun st => match st.σ 20 with | .int _ n => l.length - n.toNat | _ => 0) ⟨0, by ((try first | refine walk_aw env_ok (none) ?_ | refine walk_aw envR_ok (none) ?_); try simp -implicitDefEqProofs (maxSteps := 1000000) only [go_sem, ↓reduceIte, reduceCtorEq, Nat.reduceLT, Nat.reduceEqDiff, Nat.reduceBEq, Nat.reduceAdd, Nat.reduceMul, Nat.reduceSub, Nat.reduceLeDiff, Int.reduceNeg, Int.reduceLT, Int.reduceLE, Int.reduceEq, Int.reduceAdd, Int.reduceToNat]); simp [P0, offs, nA, bA]⟩ ?_
    rintro ⟨σ, G⟩ ⟨i, s0, s18, s19, s20, s4, s5, hi, hG, hGl⟩
    simp only at s0 s18 s19 s20 s4 s5 hG hGl
    by_cases c : (i : Int) < l.length
    · have hil : i < l.length := by omega
      have c0 : (0 : Int) ≤ i := by omega
      have hat := oA_at l i (.undef ()) hil
      have hxi := hok _ (gd_mem (d := OV.zero) hil)
      have hlen0 : (P0 (l.take i)).length = atL l i := rfl
      have hli := hle i hi
      have hf1 : i + 1 ≤ 17592186044416 := by omega
      have hsn := nA_snoc (offs l i) (atL l i)
      rw [offs_succ] at hsn
      have hf8 : (i + 1) * 8 ≤ 140737488355328 := by omega
      ((try first | refine walk_aw env_ok (some (fun t => t == 25)) ?_ | refine walk_aw envR_ok (some (fun t => t == 25)) ?_); try simp -implicitDefEqProofs (maxSteps := 1000000) only [go_sem, ↓reduceIte, reduceCtorEq, Nat.reduceLT, Nat.reduceEqDiff, Nat.reduceBEq, Nat.reduceAdd, Nat.reduceMul, Nat.reduceSub, Nat.reduceLeDiff, Int.reduceNeg, Int.reduceLT, Int.reduceLE, Int.reduceEq, Int.reduceAdd, Int.reduceToNat, s0, s18, s19, s20, s4, s5, c, c0, hat, hlen0, hsn, offs_len, hf8, Nat.zero_le])
      refine one_spec hxi.1 (okN_d (List.all_eq_true.1 hall _ (gd_mem (d := OV.zero) hil))).2 (by rw [hlen0]; omega) (Nat.zero_le _) ?_
      rw [← P0_take hil]
      have hw : IntKind.i64.wrap ((i : Int) + 1) = ((i + 1 : Nat) : Int) := by rw [wi64]; omega
      ((try first | refine walk_aw env_ok (some (fun t => t == 25)) ?_ | refine walk_aw envR_ok (some (fun t => t == 25)) ?_); try simp -implicitDefEqProofs (maxSteps := 1000000) only [go_sem, ↓reduceIte, reduceCtorEq, Nat.reduceLT, Nat.reduceEqDiff, Nat.reduceBEq, Nat.reduceAdd, Nat.reduceMul, Nat.reduceSub, Nat.reduceLeDiff, Int.reduceNeg, Int.reduceLT, Int.reduceLE, Int.reduceEq, Int.reduceAdd, Int.reduceToNat, s0, s18, s19, s20, s4, s5, hw])
      refine ⟨⟨i + 1, rfl, rfl, rfl, by omega, ?_, by omega⟩, by omega⟩
      rw [List.take_append_of_le_length hGl, hG]
    · have hi' : i = l.length := by omega
      subst hi'
      rw [List.take_length] at s4
      have hsn := nA_snoc (offs l l.length) (P0 l).length
      have hal := atL_all l
      have hsn : nA (offs l l.length) ++ [V.int .i64 ((P0 l).length : Int)] = nA (offs l (l.length + 1)) := by rw [nA_snoc, ← hal, offs_succ]
      have hf8 : (l.length + 1) * 8 ≤ 140737488355328 := by omega
      ((try first | refine walk_aw env_ok (some (fun t => t == 34)) ?_ | refine walk_aw envR_ok (some (fun t => t == 34)) ?_); try simp -implicitDefEqProofs (maxSteps := 1000000) only [go_sem, ↓reduceIte, reduceCtorEq, Nat.reduceLT, Nat.reduceEqDiff, Nat.reduceBEq, Nat.reduceAdd, Nat.reduceMul, Nat.reduceSub, Nat.reduceLeDiff, Int.reduceNeg, Int.reduceLT, Int.reduceLE, Int.reduceEq, Int.reduceAdd, Int.reduceToNat, s0, s18, s19, s20, s4, s5, c, hsn, offs_len, hf8, Nat.zero_le])
      refine AW.strip 5 ?_
      by_cases hne : P0 l = []
      · have hl0 : l = [] := by
          cases l with
          | nil => rfl
          | cons x l => rw [P0_cons] at hne; simp [put1] at hne
        subst hl0
        refine AW.loop (fun st => st.σ 0 = .sl (oA []) none () ∧ st.σ 38 = .sl (oA []) none () ∧ st.σ 39 = .int .i64 0 ∧ st.σ 40 = .int .i64 0 ∧ st.σ 4 = .sl [] (some 0) () ∧ st.H.take H.length = H) (fun st => 0) ?_ ?_
        · ((try first | refine walk_aw env_ok (none) ?_ | refine walk_aw envR_ok (none) ?_); try simp -implicitDefEqProofs (maxSteps := 1000000) only [go_sem, ↓reduceIte, reduceCtorEq, Nat.reduceLT, Nat.reduceEqDiff, Nat.reduceBEq, Nat.reduceAdd, Nat.reduceMul, Nat.reduceSub, Nat.reduceLeDiff, Int.reduceNeg, Int.reduceLT, Int.reduceLE, Int.reduceEq, Int.reduceAdd, Int.reduceToNat, s0, s4])
          exact ⟨rfl, hG⟩
        · rintro ⟨σ, G2⟩ ⟨s0, s38, s39, s40, s4, hG2⟩
          simp only at s0 s38 s39 s40 s4 hG2
          have z0 : ¬ (0 : Int) < 0 := by omega
          ((try first | refine walk_aw env_ok (none) ?_ | refine walk_aw envR_ok (none) ?_); try simp -implicitDefEqProofs (maxSteps := 1000000) only [go_sem, ↓reduceIte, reduceCtorEq, Nat.reduceLT, Nat.reduceEqDiff, Nat.reduceBEq, Nat.reduceAdd, Nat.reduceMul, Nat.reduceSub, Nat.reduceLeDiff, Int.reduceNeg, Int.reduceLT, Int.reduceLE, Int.reduceEq, Int.reduceAdd, Int.reduceToNat, s0, s38, s39, s40, s4, z0])
          exact .inl ⟨_, rfl, by rw [hG2]; exact h rfl⟩
      · refine AW.obj (t := 4) (xs := bA (P0 l)) (by ((try first | refine walk_aw env_ok (none) ?_ | refine walk_aw envR_ok (none) ?_); try simp -implicitDefEqProofs (maxSteps := 1000000) only [go_sem, ↓reduceIte, reduceCtorEq, Nat.reduceLT, Nat.reduceEqDiff, Nat.reduceBEq, Nat.reduceAdd, Nat.reduceMul, Nat.reduceSub, Nat.reduceLeDiff, Int.reduceNeg, Int.reduceLT, Int.reduceLE, Int.reduceEq, Int.reduceAdd, Int.reduceToNat, s4])) (by intro e; exact hne (by simpa [bA] using e)) ?_
        rw [bA_flat, bA_length]
        refine AW.loop (fun st => ∃ i : Nat, st.σ 0 = .sl (oA l) none () ∧ st.σ 38 = .sl (oA l) none () ∧ st.σ 39 = .int .i64 l.length ∧ st.σ 40 = .int .i64 i ∧ st.σ 4 = .win (G.length, 0) (P0 l).length () ∧ st.σ 5 = .sl (nA (offs l (l.length + 1))) none () ∧ i ≤ l.length ∧
            st.H.take H.length = H ∧ G.length < st.H.length ∧ st.H[G.length]? = some (.cells (bA (BB l i))) ∧ (List.range i).all (jOk l) = true) (fun st => match st.σ 40 with | .int _ n => l.length - n.toNat | _ => 0) ?_ ?_
        · refine ⟨0, ?_⟩
          ((try first | refine walk_aw env_ok (none) ?_ | refine walk_aw envR_ok (none) ?_); try simp -implicitDefEqProofs (maxSteps := 1000000) only [go_sem, ↓reduceIte, reduceCtorEq, Nat.reduceLT, Nat.reduceEqDiff, Nat.reduceBEq, Nat.reduceAdd, Nat.reduceMul, Nat.reduceSub, Nat.reduceLeDiff, Int.reduceNeg, Int.reduceLT, Int.reduceLE, Int.reduceEq, Int.reduceAdd, Int.reduceToNat, s0, s4])
          refine ⟨Nat.zero_le _, ?_, by omega, by rw [BB_zero], rfl⟩
          rw [List.take_append_of_le_length hGl, hG]
        rintro ⟨σ, G2⟩ ⟨i, s0, s38, s39, s40, s4, s5, hi, hG2, hg, hcell, hj⟩
        simp only at s0 s38 s39 s40 s4 s5 hG2 hg hcell
        by_cases c : (i : Int) < l.length
        · have hil : i < l.length := by omega
          have c0 : (0 : Int) ≤ i := by omega
          have hat := oA_at l i (.undef ()) hil
          ((try first | refine walk_aw env_ok (none) ?_ | refine walk_aw envR_ok (none) ?_); try simp -implicitDefEqProofs (maxSteps := 1000000) only [go_sem, ↓reduceIte, reduceCtorEq, Nat.reduceLT, Nat.reduceEqDiff, Nat.reduceBEq, Nat.reduceAdd, Nat.reduceMul, Nat.reduceSub, Nat.reduceLeDiff, Int.reduceNeg, Int.reduceLT, Int.reduceLE, Int.reduceEq, Int.reduceAdd, Int.reduceToNat, s0, s38, s39, s40, s4, s5, c, c0, hat])
          refine Shape_spec ?_
          by_cases c8 : shp (l.getD i OV.zero).code = 8
          · have hxi := hx _ (gd_mem (d := OV.zero) hil)
            have hwl : IntKind.u64.wrap (l.length : Int) = l.length := by rw [wu64]; omega
            have hG3 : ∀ Z, (G2 ++ Z).take H.length = H := fun Z => by rw [List.take_append_of_le_length (by omega), hG2]
            by_cases ha : ((l.getD i OV.zero).a : Int) > l.length
            · have hno : layOk l = false := layOk_no hil (by simp only [jOk, c8]; rw [decide_eq_false]; omega)
              ((try first | refine walk_aw env_ok (none) ?_ | refine walk_aw envR_ok (none) ?_); try simp -implicitDefEqProofs (maxSteps := 1000000) only [go_sem, ↓reduceIte, reduceCtorEq, Nat.reduceLT, Nat.reduceEqDiff, Nat.reduceBEq, Nat.reduceAdd, Nat.reduceMul, Nat.reduceSub, Nat.reduceLeDiff, Int.reduceNeg, Int.reduceLT, Int.reduceLE, Int.reduceEq, Int.reduceAdd, Int.reduceToNat, s0, s38, s39, s40, s4, s5, c, c0, hat, c8, hwl, ha])
              exact .inl (fin0 hno _ (hG3 _))
            · have hw : IntKind.i64.wrap ((i : Int) + 1) = ((i + 1 : Nat) : Int) := by rw [wi64]; omega
              have ha0 : (0 : Int) ≤ (l.getD i OV.zero).a := by omega
              have ha1 : ((l.getD i OV.zero).a : Int) < ((l.length + 1 : Nat) : Int) := by omega
              have hi0 : (0 : Int) ≤ ((i + 1 : Nat) : Int) := by omega
              have hi1 : ((i + 1 : Nat) : Int) < ((l.length + 1 : Nat) : Int) := by omega
              have hic : (i : Int) < ((l.length + 1 : Nat) : Int) := by omega
              have hata := nA_at (offs l (l.length + 1)) (l.getD i OV.zero).a (.undef ()) (by rw [offs_len]; omega)
              rw [offs_at (by omega)] at hata
              have hati := nA_at (offs l (l.length + 1)) (i + 1) (.undef ()) (by rw [offs_len]; omega)
              rw [offs_at (by omega)] at hati
              have hat0 := nA_at (offs l (l.length + 1)) i (.undef ()) (by rw [offs_len]; omega)
              rw [offs_at (by omega)] at hat0
              have b1 := hle (l.getD i OV.zero).a (by omega)
              have b2 := hle (i + 1) (by omega)
              have b3 := hle i (by omega)
              have hwr : -4611686018427387904 ≤ wayI l i ∧ wayI l i < 4611686018427387904 := by unfold wayI; omega
              have hws : IntKind.i64.wrap ((atL l (l.getD i OV.zero).a : Int) - atL l (i + 1)) = wayI l i := by rw [wi64]; unfold wayI at *; omega
              have hwu : IntKind.u64.wrap (wayI l i) = (wayU l i : Nat) := by rw [wu64]; unfold wayU; omega
              ((try first | refine walk_aw env_ok (none) ?_ | refine walk_aw envR_ok (none) ?_); try simp -implicitDefEqProofs (maxSteps := 1000000) only [go_sem, ↓reduceIte, reduceCtorEq, Nat.reduceLT, Nat.reduceEqDiff, Nat.reduceBEq, Nat.reduceAdd, Nat.reduceMul, Nat.reduceSub, Nat.reduceLeDiff, Int.reduceNeg, Int.reduceLT, Int.reduceLE, Int.reduceEq, Int.reduceAdd, Int.reduceToNat, s0, s38, s39, s40, s4, s5, c, c0, hat, c8, hwl, ha])
              refine AW.chain env_ok [0, 0, 2, 7, 15, 0, 0, 64, 224, 480, 1023, 2047, 4095] [0, 1, 2, 3, 4, 5, 6, 7, 8, 9, 10, 11] [(12, [], [])] mixed (by decide) ?_
              ((try first | refine walk_aw env_ok (none) ?_ | refine walk_aw envR_ok (none) ?_); try simp -implicitDefEqProofs (maxSteps := 1000000) only [go_sem, ↓reduceIte, reduceCtorEq, Nat.reduceLT, Nat.reduceEqDiff, Nat.reduceBEq, Nat.reduceAdd, Nat.reduceMul, Nat.reduceSub, Nat.reduceLeDiff, Int.reduceNeg, Int.reduceLT, Int.reduceLE, Int.reduceEq, Int.reduceAdd, Int.reduceToNat, s0, s38, s39, s40, s4, s5, c, c0, hat, c8, hwl, ha, hw, ha0, ha1, hi0, hi1, hata, hati, offs_len, hws, hwu])
              refine extended_spec (k := 2) (wayU_lt l i) (by omega) ?_
              by_cases he : ext (wayU l i) 2 = wayU l i
              · have hjk : jOk l i = true := decide_eq_true (.inr ⟨by omega, (way_ext hwr).1 he⟩)
                rw [he]
                have hin := fun Z => in_get (x := .cells (bA (BB l i))) (H := G2) (p := G.length) Z hcell
                have his := fun Z y => in_set (x := .cells (bA (BB l i))) (H := G2) (p := G.length) Z y hcell
                have hw1 : IntKind.i64.wrap ((atL l i : Int) + 1) = ((atL l i + 1 : Nat) : Int) := by rw [wi64]; omega
                have hfit := at_fit hil c8
                have q0 : (0 : Int) ≤ ((atL l i + 1 : Nat) : Int) := by omega
                have q1 : atL l i + 1 < (P0 l).length := by omega
                ((try first | refine walk_aw env_ok (none) ?_ | refine walk_aw envR_ok (none) ?_); try simp -implicitDefEqProofs (maxSteps := 1000000) only [go_sem, ↓reduceIte, reduceCtorEq, Nat.reduceLT, Nat.reduceEqDiff, Nat.reduceBEq, Nat.reduceAdd, Nat.reduceMul, Nat.reduceSub, Nat.reduceLeDiff, Int.reduceNeg, Int.reduceLT, Int.reduceLE, Int.reduceEq, Int.reduceAdd, Int.reduceToNat, s0, s38, s39, s40, s4, s5, c, c0, hat, c8])
                refine AW.chain env_ok [0, 0, 0, 6, 14, 30, 63, 0, 128, 511] [0, 1, 2, 3, 4, 5, 6, 7] [(8, [0, 1, 2, 3, 4, 5, 6], []), (9, [], [])] mixed (by decide) ?_
                ((try first | refine walk_aw env_ok (none) ?_ | refine walk_aw envR_ok (none) ?_); try simp -implicitDefEqProofs (maxSteps := 1000000) only [go_sem, ↓reduceIte, reduceCtorEq, Nat.reduceLT, Nat.reduceEqDiff, Nat.reduceBEq, Nat.reduceAdd, Nat.reduceMul, Nat.reduceSub, Nat.reduceLeDiff, Int.reduceNeg, Int.reduceLT, Int.reduceLE, Int.reduceEq, Int.reduceAdd, Int.reduceToNat, s0, s38, s39, s40, s4, s5, c0, hic, hat0, offs_len, hw1, q0, q1, Nat.le_refl])
                refine cPut_spec (b := []) (k := 0) (by decide) (Nat.le_refl _) (wayU_lt l i) ?_
                rw [List.nil_append, show (min (max (2 : Int) 0) 8).toNat = 2 from rfl]
                have hmin : min 2 ((P0 l).length - (atL l i + 1)) = 2 := by omega
                have htk : List.take 2 (bA (leB 2 (wayU l i))) = bA (leB 2 (wayU l i)) := List.take_of_length_le (by rw [leB_bA]; exact Nat.le_refl _)
                have hbl : atL l i + 1 + 2 ≤ (BB l i).length := by rw [BB_len (by omega)]; omega
                have hbj := BB_jump hil c8
                simp only [putRange, leB_bA] at hbj
                ((try first | refine walk_aw env_ok (none) ?_ | refine walk_aw envR_ok (none) ?_); try simp -implicitDefEqProofs (maxSteps := 1000000) only [go_sem, ↓reduceIte, reduceCtorEq, Nat.reduceLT, Nat.reduceEqDiff, Nat.reduceBEq, Nat.reduceAdd, Nat.reduceMul, Nat.reduceSub, Nat.reduceLeDiff, Int.reduceNeg, Int.reduceLT, Int.reduceLE, Int.reduceEq, Int.reduceAdd, Int.reduceToNat, s0, s38, s39, s40, s4, s5, c0, hic, hat0, offs_len, hw1, hw, q0, q1, Nat.le_refl, hin, his, leB_length, hmin, bA_flat, htk, bA_all_f, bA_all_s, bA_all_l, hbl, hbj])
                ((try first | refine walk_aw env_ok (none) ?_ | refine walk_aw envR_ok (none) ?_); try simp -implicitDefEqProofs (maxSteps := 1000000) only [go_sem, ↓reduceIte, reduceCtorEq, Nat.reduceLT, Nat.reduceEqDiff, Nat.reduceBEq, Nat.reduceAdd, Nat.reduceMul, Nat.reduceSub, Nat.reduceLeDiff, Int.reduceNeg, Int.reduceLT, Int.reduceLE, Int.reduceEq, Int.reduceAdd, Int.reduceToNat, s0, s38, s39, s40, s4, s5, hw])
                refine ⟨⟨i + 1, rfl, by omega, ?_, by omega, ?_, ?_⟩, by omega⟩
                · rw [List.take_append_of_le_length (by rw [List.length_set]; omega), take_set_le hGl, hG2]
                · rw [List.getElem?_append_left (by rw [List.length_set]; exact hg), List.getElem?_set_self hg]
                · rw [List.range_succ, List.all_append, hj]
                  simp only [List.all_cons, List.all_nil, hjk, Bool.and_self]
              · have hno : layOk l = false := layOk_no hil (by
                  simp only [jOk]
                  rw [decide_eq_false]
                  rintro (e | ⟨_, e⟩)
                  · exact e c8
                  · exact he ((way_ext hwr).2 e))
                have hen : ¬ ((ext (wayU l i) 2 : Nat) : Int) = (wayU l i : Nat) := by omega
                ((try first | refine walk_aw env_ok (none) ?_ | refine walk_aw envR_ok (none) ?_); try simp -implicitDefEqProofs (maxSteps := 1000000) only [go_sem, ↓reduceIte, reduceCtorEq, Nat.reduceLT, Nat.reduceEqDiff, Nat.reduceBEq, Nat.reduceAdd, Nat.reduceMul, Nat.reduceSub, Nat.reduceLeDiff, Int.reduceNeg, Int.reduceLT, Int.reduceLE, Int.reduceEq, Int.reduceAdd, Int.reduceToNat, s0, s38, s39, s40, s4, s5, c, c0, hat, c8, hen])
                exact .inl (fin0 hno _ (hG3 _))
          · have hw : IntKind.i64.wrap ((i : Int) + 1) = ((i + 1 : Nat) : Int) := by rw [wi64]; omega
            ((try first | refine walk_aw env_ok (none) ?_ | refine walk_aw envR_ok (none) ?_); try simp -implicitDefEqProofs (maxSteps := 1000000) only [go_sem, ↓reduceIte, reduceCtorEq, Nat.reduceLT, Nat.reduceEqDiff, Nat.reduceBEq, Nat.reduceAdd, Nat.reduceMul, Nat.reduceSub, Nat.reduceLeDiff, Int.reduceNeg, Int.reduceLT, Int.reduceLE, Int.reduceEq, Int.reduceAdd, Int.reduceToNat, s0, s38, s39, s40, s4, s5, c, c0, hat, c8, hw])
            refine ⟨⟨i + 1, rfl, by omega, ?_, by omega, ?_, ?_⟩, by omega⟩
            · rw [List.take_append_of_le_length (by omega), hG2]
            · rw [List.getElem?_append_left hg, hcell, BB_plain hil c8]
            · rw [List.range_succ, List.all_append, hj]
              have hjk : jOk l i = true := decide_eq_true (.inl c8)
              simp only [List.all_cons, List.all_nil, hjk, Bool.and_self]
        · have hi' : i = l.length := by omega
          subst hi'
          have hlay : layOk l = true := by rw [layOk, hall, hj, decide_eq_true hl60]; rfl
          rw [BB_all] at hcell
          have hth := thaw_bytes (N := H.length) (n := (P0 l).length) hcell hGl (by rw [← BB_all, BB_len (Nat.le_refl _)])
          ((try first | refine walk_aw env_ok (none) ?_ | refine walk_aw envR_ok (none) ?_); try simp -implicitDefEqProofs (maxSteps := 1000000) only [go_sem, ↓reduceIte, reduceCtorEq, Nat.reduceLT, Nat.reduceEqDiff, Nat.reduceBEq, Nat.reduceAdd, Nat.reduceMul, Nat.reduceSub, Nat.reduceLeDiff, Int.reduceNeg, Int.reduceLT, Int.reduceLE, Int.reduceEq, Int.reduceAdd, Int.reduceToNat, s0, s38, s39, s40, s4, s5, c])
          refine .inl ⟨.tup [.sl (bA (layB l)) none (), .bool true], ?_, by rw [hG2]; exact h hlay⟩
          simp only [thawA, List.mapM_cons, List.mapM_nil, hth]
          rfl
theorem oRight_spec {l : List OV} (hx : ∀ x ∈ l, x.In) (hl : l.length < 9223372036854775807) (h : Q (.bool (layOk l)) H) : AC Try.prog 20 [.sl (oA l) none ()] H Q := by
  refine AC.enter (E := env Try.prog 11 (fun _ => .copy) (fun _ => false)) env_ok Try.func20 rfl rfl rfl (by simp only [List.length_cons, List.length_nil]; exact of_decide_eq_true rfl) ?_
  ((try first | refine walk_aw env_ok (none) ?_ | refine walk_aw envR_ok (none) ?_); try simp -implicitDefEqProofs (maxSteps := 1000000) only [go_sem, ↓reduceIte, reduceCtorEq, Nat.reduceLT, Nat.reduceEqDiff, Nat.reduceBEq, Nat.reduceAdd, Nat.reduceMul, Nat.reduceSub, Nat.reduceLeDiff, Int.reduceNeg, Int.reduceLT, Int.reduceLE, Int.reduceEq, Int.reduceAdd, Int.reduceToNat])
  refine laid_spec hx hl (fun e => ?_) (fun e => ?_)
  · rw [e] at h
    ((try first | refine walk_aw env_ok (none) ?_ | refine walk_aw envR_ok (none) ?_); try simp -implicitDefEqProofs (maxSteps := 1000000) only [go_sem, ↓reduceIte, reduceCtorEq, Nat.reduceLT, Nat.reduceEqDiff, Nat.reduceBEq, Nat.reduceAdd, Nat.reduceMul, Nat.reduceSub, Nat.reduceLeDiff, Int.reduceNeg, Int.reduceLT, Int.reduceLE, Int.reduceEq, Int.reduceAdd, Int.reduceToNat])
    exact .inl h
  · rw [e] at h
    ((try first | refine walk_aw env_ok (none) ?_ | refine walk_aw envR_ok (none) ?_); try simp -implicitDefEqProofs (maxSteps := 1000000) only [go_sem, ↓reduceIte, reduceCtorEq, Nat.reduceLT, Nat.reduceEqDiff, Nat.reduceBEq, Nat.reduceAdd, Nat.reduceMul, Nat.reduceSub, Nat.reduceLeDiff, Int.reduceNeg, Int.reduceLT, Int.reduceLE, Int.reduceEq, Int.reduceAdd, Int.reduceToNat])
    exact .inl h
theorem oPut_spec {l : List OV} (hx : ∀ x ∈ l, x.In) (hl : l.length < 9223372036854775807) (h0 : layOk l = false → Q (.tup [.sl [] (some 0) (), .int .i64 2]) H)
    (h : layOk l = true → Q (.tup [.sl (bA (layB l)) none (), .int .i64 0]) H) : AC Try.prog 16 [.sl (oA l) none ()] H Q := by
  refine AC.enter (E := env Try.prog 14 (fun _ => .copy) (fun _ => false)) env_ok Try.func16 rfl rfl rfl (by simp only [List.length_cons, List.length_nil]; exact of_decide_eq_true rfl) ?_
  ((try first | refine walk_aw env_ok (none) ?_ | refine walk_aw envR_ok (none) ?_); try simp -implicitDefEqProofs (maxSteps := 1000000) only [go_sem, ↓reduceIte, reduceCtorEq, Nat.reduceLT, Nat.reduceEqDiff, Nat.reduceBEq, Nat.reduceAdd, Nat.reduceMul, Nat.reduceSub, Nat.reduceLeDiff, Int.reduceNeg, Int.reduceLT, Int.reduceLE, Int.reduceEq, Int.reduceAdd, Int.reduceToNat])
  refine laid_spec hx hl (fun e => ?_) (fun e => ?_)
  · ((try first | refine walk_aw env_ok (none) ?_ | refine walk_aw envR_ok (none) ?_); try simp -implicitDefEqProofs (maxSteps := 1000000) only [go_sem, ↓reduceIte, reduceCtorEq, Nat.reduceLT, Nat.reduceEqDiff, Nat.reduceBEq, Nat.reduceAdd, Nat.reduceMul, Nat.reduceSub, Nat.reduceLeDiff, Int.reduceNeg, Int.reduceLT, Int.reduceLE, Int.reduceEq, Int.reduceAdd, Int.reduceToNat])
    exact .inl (h0 e)
  · ((try first | refine walk_aw env_ok (none) ?_ | refine walk_aw envR_ok (none) ?_); try simp -implicitDefEqProofs (maxSteps := 1000000) only [go_sem, ↓reduceIte, reduceCtorEq, Nat.reduceLT, Nat.reduceEqDiff, Nat.reduceBEq, Nat.reduceAdd, Nat.reduceMul, Nat.reduceSub, Nat.reduceLeDiff, Int.reduceNeg, Int.reduceLT, Int.reduceLE, Int.reduceEq, Int.reduceAdd, Int.reduceToNat])
    exact .inl (h e)
end
end Go.Ab
end

section
/- Expressions that are read. -/
namespace Go.Ab
open V Go.Proofs
set_option maxHeartbeats 16000000
set_option maxRecDepth 10000
set_option linter.unusedSimpArgs false
set_option linter.unusedVariables false

theorem oA_snoc (l : List OV) (x : OV) : oA l ++ [V.agg x.cells] = oA (l ++ [x]) := by simp [oA, OV.v]
theorem Uni_ov (x : OV) : Uni 4 [V.agg x.cells] = true := rfl
theorem getD_snoc_l {l : List Nat} {x i : Nat} (h : i < l.length) : (l ++ [x]).getD i 0 = l.getD i 0 := by
  rw [List.getD_eq_getElem?_getD, List.getD_eq_getElem?_getD, List.getElem?_append_left h]
theorem getD_snoc_r {l : List Nat} {x : Nat} : (l ++ [x]).getD l.length 0 = x := by
  rw [List.getD_eq_getElem?_getD, List.getElem?_append_right (Nat.le_refl _), Nat.sub_self]; rfl
theorem snoc_sort {l : List Nat} {x : Nat} (h : ∀ i j, i < j → j < l.length → l.getD i 0 < l.getD j 0) (hx : ∀ k, k < l.length → l.getD k 0 < x) :
    ∀ i j, i < j → j < (l ++ [x]).length → (l ++ [x]).getD i 0 < (l ++ [x]).getD j 0 := by
  intro i j hij hj
  rw [List.length_append, List.length_singleton] at hj
  by_cases c : j < l.length
  · rw [getD_snoc_l c, getD_snoc_l (by omega)]; exact h i j hij c
  · rw [show j = l.length by omega, getD_snoc_r, getD_snoc_l (by omega)]; exact hx i (by omega)
theorem tkJ_some {l : List Nat} {i : Nat} {x y : OV} {r : List OV} (h : jmp l i x = some y) : tkJ l i (x :: r) = (tkJ l (i + 1) r).map (y :: ·) := by
  simp only [tkJ, h]; cases tkJ l (i + 1) r <;> rfl
theorem tkJ_none {l : List Nat} {i : Nat} {x : OV} {r : List OV} (h : jmp l i x = none) : tkJ l i (x :: r) = none := by
  simp only [tkJ, h]
attribute [go_sem] Uni_ov uA_flagless uA_low uA_uni uA_len uA_strip Uni_u64
section
variable {H : Heap} {Q : A → Heap → Prop}
theorem oTake_spec {b : List UInt8} (hb : b.length < 140737488355328) (h : Q (.tup [.sl (oA (oTake b).2) none (), .int .i64 (oTake b).1]) H) : AC Try.prog 17 [.sl (bA b) none ()] H Q := by
  refine AC.strip (E := env Try.prog 0 (fun _ => .copy) (fun _ => false)) env_ok ?_
  refine AC.thaw 4 true (by decide) ?_
  have fin : ∀ (G : Heap) (e : Int), G.take H.length = H → oTake b = (e, []) → ∃ r', thawA H.length 4 true G (.tup [.sl [] (some 0) (), .int .i64 e]) = some r' ∧ Q r'.strip (G.take H.length) := by
    intro G e hG he
    rw [he] at h
    exact ⟨_, rfl, by rw [hG]; exact h⟩
  have fin2 : ∀ (G : Heap) (e : Int), oTake b = (e, []) → ∃ r', thawA H.length 4 true G (.tup [.sl [] (some 0) (), .int .i64 e]) = some r' ∧ Q r'.strip H := by
    intro G e he
    rw [he] at h
    exact ⟨_, rfl, h⟩
  obtain ⟨R, hR⟩ : ∃ R, R = tkA 62 ⟨b, 0, 0⟩ [] [] := ⟨_, rfl⟩
  refine AC.enter (E := env Try.prog 76 (fun t => if t == 20 || t == 26 || t == 36 then .take else .copy) (fun _ => false)) env_ok Try.func17 rfl rfl rfl (by simp only [List.length_cons, List.length_nil]; exact of_decide_eq_true rfl) ?_
  ((try first | refine walk_aw env_ok (some (fun t => t == 17)) ?_ | refine walk_aw envR_ok (some (fun t => t == 17)) ?_); try simp -implicitDefEqProofs (maxSteps := 1000000) only [go_sem, ↓reduceIte, reduceCtorEq, Nat.reduceLT, Nat.reduceEqDiff, Nat.reduceBEq, Nat.reduceAdd, Nat.reduceMul, Nat.reduceSub, Nat.reduceLeDiff, Int.reduceNeg, Int.reduceLT, Int.reduceLE, Int.reduceEq, Int.reduceAdd, Int.reduceToNat, hb])
  refine New_spec hb ?_
  ((try first | refine walk_aw env_ok (some (fun t => t == 17)) ?_ | refine walk_aw envR_ok (some (fun t => t == 17)) ?_); try simp -implicitDefEqProofs (maxSteps := 1000000) only [go_sem, ↓reduceIte, reduceCtorEq, Nat.reduceLT, Nat.reduceEqDiff, Nat.reduceBEq, Nat.reduceAdd, Nat.reduceMul, Nat.reduceSub, Nat.reduceLeDiff, Int.reduceNeg, Int.reduceLT, Int.reduceLE, Int.reduceEq, Int.reduceAdd, Int.reduceToNat, hb])
  refine AW.loop (fun st => ∃ (f : Nat) (s : CS) (out : List OV) (at_ : List Nat), R = tkA f s out at_ ∧ out.length + f = 62 ∧ out.length ≤ 60 ∧ s.b = b ∧ s.Ok ∧ s.err = 0 ∧
      (∀ i j, i < j → j < at_.length → at_.getD i 0 < at_.getD j 0) ∧ (∀ k, k < at_.length → at_.getD k 0 < s.pos) ∧ at_.length = out.length ∧
      st.σ 0 = .sl (bA b) none () ∧ st.σ 4 = .ptr (some (H.length, 0)) ∧ st.σ 5 = .sl (oA out) (some 0) () ∧ st.σ 6 = .sl (uA at_) (some 0) () ∧ st.H = H ++ [.cells s.cur])
    (fun st => match st.σ 5 with | .sl xs _ _ => 62 - xs.length | _ => 0) ?_ ?_
  · refine ⟨62, ⟨b, 0, 0⟩, [], [], hR, rfl, by decide, rfl, ⟨Nat.zero_le _, by show b.length < _; omega, by show (0 : Int) ≤ 0; decide, by show (0 : Int) < 1000000; decide⟩, rfl, by simp, by simp, rfl, ?_⟩
    ((try first | refine walk_aw env_ok (none) ?_ | refine walk_aw envR_ok (none) ?_); try simp -implicitDefEqProofs (maxSteps := 1000000) only [go_sem, ↓reduceIte, reduceCtorEq, Nat.reduceLT, Nat.reduceEqDiff, Nat.reduceBEq, Nat.reduceAdd, Nat.reduceMul, Nat.reduceSub, Nat.reduceLeDiff, Int.reduceNeg, Int.reduceLT, Int.reduceLE, Int.reduceEq, Int.reduceAdd, Int.reduceToNat])
  rintro ⟨σ, G⟩ ⟨f, s, out, at_, hr, hf, ho60, hsb, hs, he, hsort, hlt, hal, s0, s4, s5, s6, hG⟩
  simp only at s0 s4 s5 s6 hG
  subst hG
  have hsbl : s.b.length < 140737488355328 := by rw [hsb]; exact hb
  obtain ⟨f, rfl⟩ : ∃ g, f = g + 1 := ⟨f - 1, by omega⟩
  by_cases c : (s.left : Int) > 0
  · ((try first | refine walk_aw env_ok (some (fun t => t == 17)) ?_ | refine walk_aw envR_ok (some (fun t => t == 17)) ?_); try simp -implicitDefEqProofs (maxSteps := 1000000) only [go_sem, ↓reduceIte, reduceCtorEq, Nat.reduceLT, Nat.reduceEqDiff, Nat.reduceBEq, Nat.reduceAdd, Nat.reduceMul, Nat.reduceSub, Nat.reduceLeDiff, Int.reduceNeg, Int.reduceLT, Int.reduceLE, Int.reduceEq, Int.reduceAdd, Int.reduceToNat, s0, s4, s5, s6])
    refine Left_spec hs (by first | exact app_get0 .. | exact app_get ..) ?_
    simp only [tkA, if_neg (show ¬ s.left = 0 by omega)] at hr
    by_cases c60 : (out.length : Int) = 60
    · rw [if_pos (show out.length = 60 by omega)] at hr
      ((try first | refine walk_aw env_ok (some (fun t => t == 17)) ?_ | refine walk_aw envR_ok (some (fun t => t == 17)) ?_); try simp -implicitDefEqProofs (maxSteps := 1000000) only [go_sem, ↓reduceIte, reduceCtorEq, Nat.reduceLT, Nat.reduceEqDiff, Nat.reduceBEq, Nat.reduceAdd, Nat.reduceMul, Nat.reduceSub, Nat.reduceLeDiff, Int.reduceNeg, Int.reduceLT, Int.reduceLE, Int.reduceEq, Int.reduceAdd, Int.reduceToNat, s0, s4, s5, s6, c, c60])
      exact .inl (fin2 _ 3 (by rw [oTake, ← hR, hr]))
    · rw [if_neg (show ¬ out.length = 60 by omega)] at hr
      have hwp : IntKind.u64.wrap (s.pos : Int) = s.pos := by have := hs.1; rw [wu64]; omega
      have hsn := uA_snoc at_ s.pos
      have hso := oA_snoc out (tk1 s).1
      have hf1 : (out.length + 1) * 8 ≤ 140737488355328 := by omega
      have hf2 : (out.length + 1) * 48 ≤ 140737488355328 := by omega
      ((try first | refine walk_aw env_ok (some (fun t => t == 17)) ?_ | refine walk_aw envR_ok (some (fun t => t == 17)) ?_); try simp -implicitDefEqProofs (maxSteps := 1000000) only [go_sem, ↓reduceIte, reduceCtorEq, Nat.reduceLT, Nat.reduceEqDiff, Nat.reduceBEq, Nat.reduceAdd, Nat.reduceMul, Nat.reduceSub, Nat.reduceLeDiff, Int.reduceNeg, Int.reduceLT, Int.reduceLE, Int.reduceEq, Int.reduceAdd, Int.reduceToNat, s0, s4, s5, s6, c, c60])
      refine At_spec (by first | exact app_get0 .. | exact app_get ..) ?_
      ((try first | refine walk_aw env_ok (some (fun t => t == 17)) ?_ | refine walk_aw envR_ok (some (fun t => t == 17)) ?_); try simp -implicitDefEqProofs (maxSteps := 1000000) only [go_sem, ↓reduceIte, reduceCtorEq, Nat.reduceLT, Nat.reduceEqDiff, Nat.reduceBEq, Nat.reduceAdd, Nat.reduceMul, Nat.reduceSub, Nat.reduceLeDiff, Int.reduceNeg, Int.reduceLT, Int.reduceLE, Int.reduceEq, Int.reduceAdd, Int.reduceToNat, s0, s4, s5, s6, c, c60, hwp, hsn, hal, hf1, Nat.zero_le])
      refine tk_spec hs hsbl (by first | exact app_get0 .. | exact app_get ..) ?_
      ((try first | refine walk_aw env_ok (some (fun t => t == 17)) ?_ | refine walk_aw envR_ok (some (fun t => t == 17)) ?_); try simp -implicitDefEqProofs (maxSteps := 1000000) only [go_sem, ↓reduceIte, reduceCtorEq, Nat.reduceLT, Nat.reduceEqDiff, Nat.reduceBEq, Nat.reduceAdd, Nat.reduceMul, Nat.reduceSub, Nat.reduceLeDiff, Int.reduceNeg, Int.reduceLT, Int.reduceLE, Int.reduceEq, Int.reduceAdd, Int.reduceToNat, s0, s4, s5, s6, c, c60, hwp, hsn, hso, hal, hf1, hf2, Nat.zero_le])
      have ht := tk1_ok hs
      refine Err_spec (s := (tk1 s).2) (by first | exact app_get0 .. | exact app_get ..) ?_
      by_cases e1 : (tk1 s).2.err = 0
      · rw [if_neg (show ¬ (tk1 s).2.err ≠ 0 from fun n => n e1)] at hr
        have hpos := tk1_pos he e1
        ((try first | refine walk_aw env_ok (some (fun t => t == 17)) ?_ | refine walk_aw envR_ok (some (fun t => t == 17)) ?_); try simp -implicitDefEqProofs (maxSteps := 1000000) only [go_sem, ↓reduceIte, reduceCtorEq, Nat.reduceLT, Nat.reduceEqDiff, Nat.reduceBEq, Nat.reduceAdd, Nat.reduceMul, Nat.reduceSub, Nat.reduceLeDiff, Int.reduceNeg, Int.reduceLT, Int.reduceLE, Int.reduceEq, Int.reduceAdd, Int.reduceToNat, s0, s4, s5, s6, e1])
        refine ⟨⟨f, (tk1 s).2, out ++ [(tk1 s).1], at_ ++ [s.pos], hr, ?_, ?_, by rw [ht.2, hsb], ht.1, e1, ?_, ?_, ?_, ?_⟩, ?_⟩
        · rw [List.length_append]; simp only [List.length_cons, List.length_nil]; omega
        · rw [List.length_append]; simp only [List.length_cons, List.length_nil]; omega
        · exact snoc_sort hsort hlt
        · intro k hk
          rw [List.length_append, List.length_singleton] at hk
          by_cases c1 : k < at_.length
          · rw [getD_snoc_l c1]; have := hlt k c1; omega
          · rw [show k = at_.length by omega, getD_snoc_r]; exact hpos
        · rw [List.length_append, List.length_append, hal]; rfl
        · exact ⟨rfl, rfl, rfl⟩
        · rw [List.length_append, List.length_singleton]; omega
      · rw [if_pos e1] at hr
        ((try first | refine walk_aw env_ok (some (fun t => t == 17)) ?_ | refine walk_aw envR_ok (some (fun t => t == 17)) ?_); try simp -implicitDefEqProofs (maxSteps := 1000000) only [go_sem, ↓reduceIte, reduceCtorEq, Nat.reduceLT, Nat.reduceEqDiff, Nat.reduceBEq, Nat.reduceAdd, Nat.reduceMul, Nat.reduceSub, Nat.reduceLeDiff, Int.reduceNeg, Int.reduceLT, Int.reduceLE, Int.reduceEq, Int.reduceAdd, Int.reduceToNat, s0, s4, s5, s6, e1])
        exact .inl (fin2 _ _ (by rw [oTake, ← hR, hr]))
  · have hl0 : s.left = 0 := by omega
    simp only [tkA, if_pos hl0] at hr
    have hsort2 : ∀ i j, i < j → j < (at_ ++ [b.length]).length → (at_ ++ [b.length]).getD i 0 < (at_ ++ [b.length]).getD j 0 :=
      snoc_sort hsort fun k hk => by have := hlt k hk; have := hs.1; rw [hsb] at this; omega
    have hwb : IntKind.u64.wrap (b.length : Int) = b.length := by rw [wu64]; omega
    have hsn := uA_snoc at_ b.length
    have hf1 : (out.length + 1) * 8 ≤ 140737488355328 := by omega
    have hal2 : (at_ ++ [b.length]).length = out.length + 1 := by rw [List.length_append, hal]; rfl
    by_cases ho : out = []
    · have hat0 : at_ = [] := List.eq_nil_of_length_eq_zero (by rw [hal, ho]; rfl)
      subst ho
      subst hat0
      ((try first | refine walk_aw env_ok (some (fun t => t == 17)) ?_ | refine walk_aw envR_ok (some (fun t => t == 17)) ?_); try simp -implicitDefEqProofs (maxSteps := 1000000) only [go_sem, ↓reduceIte, reduceCtorEq, Nat.reduceLT, Nat.reduceEqDiff, Nat.reduceBEq, Nat.reduceAdd, Nat.reduceMul, Nat.reduceSub, Nat.reduceLeDiff, Int.reduceNeg, Int.reduceLT, Int.reduceLE, Int.reduceEq, Int.reduceAdd, Int.reduceToNat, s0, s4, s5, s6])
      refine Left_spec hs (by first | exact app_get0 .. | exact app_get ..) ?_
      have hta : oTake b = (0, []) := by rw [oTake, ← hR, hr]; rfl
      ((try first | refine walk_aw env_ok (some (fun t => t == 17)) ?_ | refine walk_aw envR_ok (some (fun t => t == 17)) ?_); try simp -implicitDefEqProofs (maxSteps := 1000000) only [go_sem, ↓reduceIte, reduceCtorEq, Nat.reduceLT, Nat.reduceEqDiff, Nat.reduceBEq, Nat.reduceAdd, Nat.reduceMul, Nat.reduceSub, Nat.reduceLeDiff, Int.reduceNeg, Int.reduceLT, Int.reduceLE, Int.reduceEq, Int.reduceAdd, Int.reduceToNat, s0, s4, s5, s6, c, hwb, hsn, hal, hf1, Nat.zero_le])
      refine AW.loop (fun st => st.σ 43 = .int .i64 0 ∧ st.σ 44 = .int .i64 0 ∧ st.σ 5 = .sl [] (some 0) () ∧ st.H.take H.length = H) (fun st => 0) ?_ ?_
      · ((try first | refine walk_aw env_ok (none) ?_ | refine walk_aw envR_ok (none) ?_); try simp -implicitDefEqProofs (maxSteps := 1000000) only [go_sem, ↓reduceIte, reduceCtorEq, Nat.reduceLT, Nat.reduceEqDiff, Nat.reduceBEq, Nat.reduceAdd, Nat.reduceMul, Nat.reduceSub, Nat.reduceLeDiff, Int.reduceNeg, Int.reduceLT, Int.reduceLE, Int.reduceEq, Int.reduceAdd, Int.reduceToNat, s0])
      · rintro ⟨σ, G2⟩ ⟨s43, s44, s5, hG2⟩
        simp only at s43 s44 s5 hG2
        have z0 : ¬ (0 : Int) < 0 := by omega
        rw [hta] at h
        ((try first | refine walk_aw env_ok (none) ?_ | refine walk_aw envR_ok (none) ?_); try simp -implicitDefEqProofs (maxSteps := 1000000) only [go_sem, ↓reduceIte, reduceCtorEq, Nat.reduceLT, Nat.reduceEqDiff, Nat.reduceBEq, Nat.reduceAdd, Nat.reduceMul, Nat.reduceSub, Nat.reduceLeDiff, Int.reduceNeg, Int.reduceLT, Int.reduceLE, Int.reduceEq, Int.reduceAdd, Int.reduceToNat, s43, s44, s5, z0])
        exact .inl ⟨_, rfl, by rw [hG2]; exact h⟩
    · refine AW.obj (t := 5) (xs := oA out) s5 (by intro e; exact ho (by simpa [oA] using e)) ?_
      rw [oA_length]
      ((try first | refine walk_aw env_ok (some (fun t => t == 17)) ?_ | refine walk_aw envR_ok (some (fun t => t == 17)) ?_); try simp -implicitDefEqProofs (maxSteps := 1000000) only [go_sem, ↓reduceIte, reduceCtorEq, Nat.reduceLT, Nat.reduceEqDiff, Nat.reduceBEq, Nat.reduceAdd, Nat.reduceMul, Nat.reduceSub, Nat.reduceLeDiff, Int.reduceNeg, Int.reduceLT, Int.reduceLE, Int.reduceEq, Int.reduceAdd, Int.reduceToNat, s0, s4, s5, s6])
      refine Left_spec hs (by first | exact app_get0 .. | exact app_get ..) ?_
      ((try first | refine walk_aw env_ok (some (fun t => t == 17)) ?_ | refine walk_aw envR_ok (some (fun t => t == 17)) ?_); try simp -implicitDefEqProofs (maxSteps := 1000000) only [go_sem, ↓reduceIte, reduceCtorEq, Nat.reduceLT, Nat.reduceEqDiff, Nat.reduceBEq, Nat.reduceAdd, Nat.reduceMul, Nat.reduceSub, Nat.reduceLeDiff, Int.reduceNeg, Int.reduceLT, Int.reduceLE, Int.reduceEq, Int.reduceAdd, Int.reduceToNat, s0, s4, s5, s6, c, hwb, hsn, hal, hf1, Nat.zero_le])
      refine AW.strip 6 ?_
      refine AW.loop (fun st => ∃ (i : Nat) (d : List OV), d.length = i ∧ i ≤ out.length ∧ tkJ (at_ ++ [b.length]) 0 out = (tkJ (at_ ++ [b.length]) i (out.drop i)).map (d ++ ·) ∧
          st.σ 42 = .win (H.length + 1, 0) out.length () ∧ st.σ 43 = .int .i64 out.length ∧ st.σ 44 = .int .i64 i ∧ st.σ 5 = .win (H.length + 1, 0) out.length () ∧ st.σ 6 = .sl (uA (at_ ++ [b.length])) none () ∧
          st.H.take H.length = H ∧ H.length + 1 < st.H.length ∧ st.H[H.length + 1]? = some (.cells (flat (oA (d ++ out.drop i)))))
        (fun st => match st.σ 44 with | .int _ n => out.length - n.toNat | _ => 0) ?_ ?_
      · refine ⟨0, [], rfl, Nat.zero_le _, by simp, ?_⟩
        ((try first | refine walk_aw env_ok (none) ?_ | refine walk_aw envR_ok (none) ?_); try simp -implicitDefEqProofs (maxSteps := 1000000) only [go_sem, ↓reduceIte, reduceCtorEq, Nat.reduceLT, Nat.reduceEqDiff, Nat.reduceBEq, Nat.reduceAdd, Nat.reduceMul, Nat.reduceSub, Nat.reduceLeDiff, Int.reduceNeg, Int.reduceLT, Int.reduceLE, Int.reduceEq, Int.reduceAdd, Int.reduceToNat, s0])
        omega
      rintro ⟨σ, G2⟩ ⟨i, d, hd, hi, hj, s42, s43, s44, s5, s6, hG2, hg, hcell⟩
      simp only at s42 s43 s44 s5 s6 hG2 hg hcell
      by_cases c2 : (i : Int) < out.length
      · have hil : i < out.length := by omega
        have c0 : (0 : Int) ≤ i := by omega
        have hdr := drop_at hil
        rw [hdr] at hcell hj
        have hpart := oF_part d (out.drop (i + 1)) (out.getD i OV.zero)
        rw [hd] at hpart
        have hfl : (flat (oA (d ++ out.getD i OV.zero :: out.drop (i + 1)))).length = out.length * 4 := by
          rw [oF_len, ← hdr, List.length_append, List.length_drop, hd]; omega
        have hle4 : i * 4 + 4 ≤ out.length * 4 := by omega
        have hle1 : i * 4 + 1 + 1 ≤ out.length * 4 := by omega
        have hw : IntKind.i64.wrap ((i : Int) + 1) = ((i + 1 : Nat) : Int) := by rw [wi64]; omega
        have hG3 : ∀ Z, (G2 ++ Z).take H.length = H := fun Z => by rw [List.take_append_of_le_length (by omega), hG2]
        ((try first | refine walk_aw env_ok (none) ?_ | refine walk_aw envR_ok (none) ?_); try simp -implicitDefEqProofs (maxSteps := 1000000) only [go_sem, ↓reduceIte, reduceCtorEq, Nat.reduceLT, Nat.reduceEqDiff, Nat.reduceBEq, Nat.reduceAdd, Nat.reduceMul, Nat.reduceSub, Nat.reduceLeDiff, Int.reduceNeg, Int.reduceLT, Int.reduceLE, Int.reduceEq, Int.reduceAdd, Int.reduceToNat, s42, s43, s44, s5, s6, c2, c0, hcell, hpart, hfl, hle4])
        refine Shape_spec ?_
        by_cases c8 : shp (out.getD i OV.zero).code = 8
        · have hi0 : (0 : Int) ≤ ((i + 1 : Nat) : Int) := by omega
          have hi1 : ((i + 1 : Nat) : Int) < ((out.length + 1 : Nat) : Int) := by omega
          have hat := uA_at (at_ ++ [b.length]) (i + 1) (.undef ()) (by rw [hal2]; omega)
          have hwa : IntKind.u64.wrap (((at_ ++ [b.length]).getD (i + 1) 0 : Nat) + ((out.getD i OV.zero).a : Int)) = ((((at_ ++ [b.length]).getD (i + 1) 0 + (out.getD i OV.zero).a) % 18446744073709551616 : Nat) : Int) := by rw [wu64]; omega
          ((try first | refine walk_aw env_ok (none) ?_ | refine walk_aw envR_ok (none) ?_); try simp -implicitDefEqProofs (maxSteps := 1000000) only [go_sem, ↓reduceIte, reduceCtorEq, Nat.reduceLT, Nat.reduceEqDiff, Nat.reduceBEq, Nat.reduceAdd, Nat.reduceMul, Nat.reduceSub, Nat.reduceLeDiff, Int.reduceNeg, Int.reduceLT, Int.reduceLE, Int.reduceEq, Int.reduceAdd, Int.reduceToNat, s42, s43, s44, s5, s6, c2, c0, hcell, hpart, hfl, hle4, c8])
          refine AW.chain env_ok [0, 0, 0, 4, 14, 30, 0, 64, 254, 511, 1023, 2047, 2047, 4095, 16383] [0, 1, 2, 3, 4, 5, 6, 7, 8] [(9, [], [10, 11, 12]), (13, [12], []), (14, [], [])] mixed (by decide) ?_
          ((try first | refine walk_aw env_ok (none) ?_ | refine walk_aw envR_ok (none) ?_); try simp -implicitDefEqProofs (maxSteps := 1000000) only [go_sem, ↓reduceIte, reduceCtorEq, Nat.reduceLT, Nat.reduceEqDiff, Nat.reduceBEq, Nat.reduceAdd, Nat.reduceMul, Nat.reduceSub, Nat.reduceLeDiff, Int.reduceNeg, Int.reduceLT, Int.reduceLE, Int.reduceEq, Int.reduceAdd, Int.reduceToNat, s42, s43, s44, s5, s6, c2, c0, hw, hi0, hi1, hal2, hat, hwa])
          refine BinarySearch_spec (by rw [hal2]; omega) hsort2 (fun k hk hke => ?_) (fun hno z => ?_)
          · have hjm : jmp (at_ ++ [b.length]) i (out.getD i OV.zero) = some { out.getD i OV.zero with a := k } := by
              unfold jmp; rw [if_pos c8, plc_some hsort2 hk hke]; rfl
            have hwk : IntKind.u64.wrap (k : Int) = k := by rw [hal2] at hk; rw [wu64]; omega
            have hin := fun Z => in_get (x := .cells (flat (oA (d ++ out.getD i OV.zero :: out.drop (i + 1))))) (H := G2) (p := H.length + 1) Z hcell
            have his := fun Z y => in_set (x := .cells (flat (oA (d ++ out.getD i OV.zero :: out.drop (i + 1))))) (H := G2) (p := H.length + 1) Z y hcell
            have hput := oF_put d (out.drop (i + 1)) (out.getD i OV.zero) k
            rw [hd] at hput
            ((try first | refine walk_aw env_ok (none) ?_ | refine walk_aw envR_ok (none) ?_); try simp -implicitDefEqProofs (maxSteps := 1000000) only [go_sem, ↓reduceIte, reduceCtorEq, Nat.reduceLT, Nat.reduceEqDiff, Nat.reduceBEq, Nat.reduceAdd, Nat.reduceMul, Nat.reduceSub, Nat.reduceLeDiff, Int.reduceNeg, Int.reduceLT, Int.reduceLE, Int.reduceEq, Int.reduceAdd, Int.reduceToNat, s42, s43, s44, s5, s6, c2, c0, hwk, hin, his, hfl, hle1, hput])
            ((try first | refine walk_aw env_ok (none) ?_ | refine walk_aw envR_ok (none) ?_); try simp -implicitDefEqProofs (maxSteps := 1000000) only [go_sem, ↓reduceIte, reduceCtorEq, Nat.reduceLT, Nat.reduceEqDiff, Nat.reduceBEq, Nat.reduceAdd, Nat.reduceMul, Nat.reduceSub, Nat.reduceLeDiff, Int.reduceNeg, Int.reduceLT, Int.reduceLE, Int.reduceEq, Int.reduceAdd, Int.reduceToNat, s42, s43, s44, s5, s6, hw])
            refine ⟨⟨i + 1, d ++ [{ out.getD i OV.zero with a := k }], by rw [List.length_append, hd]; rfl, by omega, ?_, rfl, ?_, by omega, ?_⟩, by omega⟩
            · rw [hj, tkJ_some hjm, Option.map_map]
              congr 1
              funext z; simp
            · rw [List.take_append_of_le_length (by rw [List.length_set]; omega), take_set_le (by omega), hG2]
            · rw [List.getElem?_append_left (by rw [List.length_set]; omega), List.getElem?_set_self hg, List.append_assoc]; rfl
          · have hjm : jmp (at_ ++ [b.length]) i (out.getD i OV.zero) = none := by
              unfold jmp; rw [if_pos c8, plc_none hno]; rfl
            have hta : oTake b = (46, []) := by rw [oTake, ← hR, hr]; simp only [hj, tkJ_none hjm]; rfl
            ((try first | refine walk_aw env_ok (none) ?_ | refine walk_aw envR_ok (none) ?_); try simp -implicitDefEqProofs (maxSteps := 1000000) only [go_sem, ↓reduceIte, reduceCtorEq, Nat.reduceLT, Nat.reduceEqDiff, Nat.reduceBEq, Nat.reduceAdd, Nat.reduceMul, Nat.reduceSub, Nat.reduceLeDiff, Int.reduceNeg, Int.reduceLT, Int.reduceLE, Int.reduceEq, Int.reduceAdd, Int.reduceToNat, s42, s43, s44, s5, s6, c2, c0])
            exact .inl (fin _ _ (hG3 _) hta)
        · have hjm : jmp (at_ ++ [b.length]) i (out.getD i OV.zero) = some (out.getD i OV.zero) := by unfold jmp; rw [if_neg c8]
          ((try first | refine walk_aw env_ok (none) ?_ | refine walk_aw envR_ok (none) ?_); try simp -implicitDefEqProofs (maxSteps := 1000000) only [go_sem, ↓reduceIte, reduceCtorEq, Nat.reduceLT, Nat.reduceEqDiff, Nat.reduceBEq, Nat.reduceAdd, Nat.reduceMul, Nat.reduceSub, Nat.reduceLeDiff, Int.reduceNeg, Int.reduceLT, Int.reduceLE, Int.reduceEq, Int.reduceAdd, Int.reduceToNat, s42, s43, s44, s5, s6, c2, c0, hcell, hpart, hfl, hle4, c8, hw])
          refine ⟨⟨i + 1, d ++ [out.getD i OV.zero], by rw [List.length_append, hd]; rfl, by omega, ?_, rfl, hG3 _, by omega, ?_⟩, by omega⟩
          · rw [hj, tkJ_some hjm, Option.map_map]
            congr 1
            funext z; simp
          · rw [List.getElem?_append_left hg, hcell, List.append_assoc]; rfl
      · have hi' : i = out.length := by omega
        subst hi'
        rw [List.drop_length, List.append_nil] at hcell
        rw [List.drop_length] at hj
        simp only [tkJ, Option.map_some, List.append_nil] at hj
        have hta : oTake b = (0, d) := by rw [oTake, ← hR, hr]; simp only [hj]
        rw [hta] at h
        have hth := thaw_ops (N := H.length) (n := out.length) hcell (by omega) hd.symm
        ((try first | refine walk_aw env_ok (none) ?_ | refine walk_aw envR_ok (none) ?_); try simp -implicitDefEqProofs (maxSteps := 1000000) only [go_sem, ↓reduceIte, reduceCtorEq, Nat.reduceLT, Nat.reduceEqDiff, Nat.reduceBEq, Nat.reduceAdd, Nat.reduceMul, Nat.reduceSub, Nat.reduceLeDiff, Int.reduceNeg, Int.reduceLT, Int.reduceLE, Int.reduceEq, Int.reduceAdd, Int.reduceToNat, s42, s43, s44, s5, s6, c2])
        refine .inl ⟨.tup [.sl (oA d) none (), .int .i64 0], ?_, ?_⟩
        · simp only [thawA, List.mapM_cons, List.mapM_nil, hth]
          rfl
        · rw [hG2]
          simp only [V.strip, stripL, oA_strip]
          exact h
end
end Go.Ab
end

section
/- The document's Put of operations. -/
namespace Go.Ab
open V Go.Proofs
set_option maxHeartbeats 16000000
set_option maxRecDepth 10000
set_option linter.unusedSimpArgs false
set_option linter.unusedVariables false

def bnd (l : List OV) (i : Nat) : Bool := okN (l.getD i OV.zero) && decide (shp (l.getD i OV.zero).code ≠ 8 ∨ (l.getD i OV.zero).a ≤ l.length)
theorem all_getD {l : List OV} {p : OV → Bool} (h : ∀ i, i < l.length → p (l.getD i OV.zero) = true) : l.all p = true := by
  rw [List.all_eq_true]
  intro x hx
  obtain ⟨i, hi, rfl⟩ := List.getElem_of_mem hx
  rw [← gd_get (d := OV.zero) hi]; exact h i hi
theorem layOk_bnd {l : List OV} {i : Nat} (h : i < l.length) (hb : bnd l i = false) : layOk l = false := by
  unfold bnd at hb
  cases ho : okN (l.getD i OV.zero) with
  | false =>
    have : l.all okN = false := by
      rw [Bool.eq_false_iff]; intro e
      have := List.all_eq_true.1 e _ (gd_mem (d := OV.zero) h)
      rw [ho] at this; cases this
    rw [layOk, this, Bool.false_and, Bool.and_false]
  | true =>
    rw [ho, Bool.true_and, decide_eq_false_iff_not] at hb
    refine layOk_no h ?_
    unfold jOk
    rw [decide_eq_false]
    rintro (e | ⟨e, _⟩)
    · exact hb (.inl e)
    · exact hb (.inr e)
theorem range_all {n : Nat} {p : Nat → Bool} (h : (List.range n).all p = true) {i : Nat} (hi : i < n) : p i = true := List.all_eq_true.1 h i (List.mem_range.2 hi)
theorem range_snoc {n : Nat} {p : Nat → Bool} (h : (List.range n).all p = true) (hp : p n = true) : (List.range (n + 1)).all p = true := by
  rw [List.range_succ, List.all_append, h]; simp only [List.all_cons, List.all_nil, hp, Bool.and_self]

section
variable {H : Heap} {Q : A → Heap → Prop}
theorem roPut_spec {l : List OV} (hx : ∀ x ∈ l, x.In) (hl : l.length < 9223372036854775807)
    (h0 : layOk l = false → Q (.tup [.sl [] (some 0) (), .int .i64 2]) H) (h : layOk l = true → Q (.tup [.sl (bA (layB l)) none (), .int .i64 0]) H) :
    AC Try.prog 19 [.sl (oA l) none ()] H Q := by
  refine AC.enter (E := env Try.prog 105 (fun t => if t == 45 || t == 57 || t == 95 then .take else .copy) (fun _ => false)) env_ok Try.func19 rfl rfl rfl (by simp only [List.length_cons, List.length_nil]; exact of_decide_eq_true rfl) ?_
  by_cases c60 : (l.length : Int) > 60
  · have hno : layOk l = false := by rw [layOk, decide_eq_false (by omega), Bool.false_and]
    ((try first | refine walk_aw env_ok (none) ?_ | refine walk_aw envR_ok (none) ?_); try simp -implicitDefEqProofs (maxSteps := 1000000) only [go_sem, ↓reduceIte, reduceCtorEq, Nat.reduceLT, Nat.reduceEqDiff, Nat.reduceBEq, Nat.reduceAdd, Nat.reduceMul, Nat.reduceSub, Nat.reduceLeDiff, Int.reduceNeg, Int.reduceLT, Int.reduceLE, Int.reduceEq, Int.reduceAdd, Int.reduceToNat, c60])
    exact .inl (h0 hno)
  have hl60 : l.length ≤ 60 := by omega
  have hwl : IntKind.u64.wrap (l.length : Int) = l.length := by rw [wu64]; omega
  ((try first | refine walk_aw env_ok (none) ?_ | refine walk_aw envR_ok (none) ?_); try simp -implicitDefEqProofs (maxSteps := 1000000) only [go_sem, ↓reduceIte, reduceCtorEq, Nat.reduceLT, Nat.reduceEqDiff, Nat.reduceBEq, Nat.reduceAdd, Nat.reduceMul, Nat.reduceSub, Nat.reduceLeDiff, Int.reduceNeg, Int.reduceLT, Int.reduceLE, Int.reduceEq, Int.reduceAdd, Int.reduceToNat, c60])
  refine AW.loop (fun st => ∃ i : Nat, st.σ 0 = .sl (oA l) none () ∧ st.σ 4 = .sl (nA (offs l i)) (some 0) () ∧ st.σ 5 = .int .i64 (atL l i) ∧ st.σ 6 = .int .i64 i ∧ i ≤ l.length ∧ (List.range i).all (bnd l) = true ∧ atL l i ≤ i * 70000 ∧ st.H = H)
    (fun st => match st.σ 6 with | .int _ n => l.length - n.toNat | _ => 0) ⟨0, by ((try first | refine walk_aw env_ok (none) ?_ | refine walk_aw envR_ok (none) ?_); try simp -implicitDefEqProofs (maxSteps := 1000000) only [go_sem, ↓reduceIte, reduceCtorEq, Nat.reduceLT, Nat.reduceEqDiff, Nat.reduceBEq, Nat.reduceAdd, Nat.reduceMul, Nat.reduceSub, Nat.reduceLeDiff, Int.reduceNeg, Int.reduceLT, Int.reduceLE, Int.reduceEq, Int.reduceAdd, Int.reduceToNat]); simp [offs, nA, atL, P0]⟩ ?_
  rintro ⟨σ, G⟩ ⟨i, s0, s4, s5, s6, hi, hb, hle, hG⟩
  simp only at s0 s4 s5 s6 hG
  subst hG
  by_cases c : (i : Int) < l.length
  · have hil : i < l.length := by omega
    have c0 : (0 : Int) ≤ i := by omega
    have hat := oA_at l i (.undef ()) hil
    have hxi := hx _ (gd_mem (d := OV.zero) hil)
    have hw : IntKind.i64.wrap ((i : Int) + 1) = ((i + 1 : Nat) : Int) := by rw [wi64]; omega
    ((try first | refine walk_aw env_ok (none) ?_ | refine walk_aw envR_ok (none) ?_); try simp -implicitDefEqProofs (maxSteps := 1000000) only [go_sem, ↓reduceIte, reduceCtorEq, Nat.reduceLT, Nat.reduceEqDiff, Nat.reduceBEq, Nat.reduceAdd, Nat.reduceMul, Nat.reduceSub, Nat.reduceLeDiff, Int.reduceNeg, Int.reduceLT, Int.reduceLE, Int.reduceEq, Int.reduceAdd, Int.reduceToNat, s0, s4, s5, s6, c, c0, hat])
    refine numbers_spec hxi ?_
    cases hok : okN (l.getD i OV.zero) with
    | false =>
      have hno := layOk_bnd hil (by rw [bnd, hok, Bool.false_and])
      ((try first | refine walk_aw env_ok (none) ?_ | refine walk_aw envR_ok (none) ?_); try simp -implicitDefEqProofs (maxSteps := 1000000) only [go_sem, ↓reduceIte, reduceCtorEq, Nat.reduceLT, Nat.reduceEqDiff, Nat.reduceBEq, Nat.reduceAdd, Nat.reduceMul, Nat.reduceSub, Nat.reduceLeDiff, Int.reduceNeg, Int.reduceLT, Int.reduceLE, Int.reduceEq, Int.reduceAdd, Int.reduceToNat, s0, s4, s5, s6, c, c0, hat])
      exact .inl (h0 hno)
    | true =>
      have hd := okN_d hok
      have hpl := put1_len hxi 0
      have hf8 : (i + 1) * 8 ≤ 140737488355328 := by omega
      have hsn := nA_snoc (offs l i) (atL l i)
      rw [offs_succ] at hsn
      have hws : IntKind.i64.wrap ((atL l i : Int) + (put1 (l.getD i OV.zero) 0).length) = (atL l (i + 1) : Nat) := by rw [atL_succ hil, wi64]; omega
      have hle2 : atL l (i + 1) ≤ (i + 1) * 70000 := by rw [atL_succ hil]; omega
      ((try first | refine walk_aw env_ok (none) ?_ | refine walk_aw envR_ok (none) ?_); try simp -implicitDefEqProofs (maxSteps := 1000000) only [go_sem, ↓reduceIte, reduceCtorEq, Nat.reduceLT, Nat.reduceEqDiff, Nat.reduceBEq, Nat.reduceAdd, Nat.reduceMul, Nat.reduceSub, Nat.reduceLeDiff, Int.reduceNeg, Int.reduceLT, Int.reduceLE, Int.reduceEq, Int.reduceAdd, Int.reduceToNat, s0, s4, s5, s6, c, c0, hat])
      refine rShape_spec ?_
      by_cases c8 : shp (l.getD i OV.zero).code = 8
      · by_cases ha : ((l.getD i OV.zero).a : Int) > l.length
        · have hno := layOk_bnd hil (by rw [bnd, hok, Bool.true_and, decide_eq_false]; omega)
          ((try first | refine walk_aw env_ok (none) ?_ | refine walk_aw envR_ok (none) ?_); try simp -implicitDefEqProofs (maxSteps := 1000000) only [go_sem, ↓reduceIte, reduceCtorEq, Nat.reduceLT, Nat.reduceEqDiff, Nat.reduceBEq, Nat.reduceAdd, Nat.reduceMul, Nat.reduceSub, Nat.reduceLeDiff, Int.reduceNeg, Int.reduceLT, Int.reduceLE, Int.reduceEq, Int.reduceAdd, Int.reduceToNat, s0, s4, s5, s6, c, c0, hat, c8, hwl, ha])
          exact .inl (h0 hno)
        · have hbi : bnd l i = true := by rw [bnd, hok, Bool.true_and, decide_eq_true]; omega
          ((try first | refine walk_aw env_ok (none) ?_ | refine walk_aw envR_ok (none) ?_); try simp -implicitDefEqProofs (maxSteps := 1000000) only [go_sem, ↓reduceIte, reduceCtorEq, Nat.reduceLT, Nat.reduceEqDiff, Nat.reduceBEq, Nat.reduceAdd, Nat.reduceMul, Nat.reduceSub, Nat.reduceLeDiff, Int.reduceNeg, Int.reduceLT, Int.reduceLE, Int.reduceEq, Int.reduceAdd, Int.reduceToNat, s0, s4, s5, s6, c, c0, hat, c8, hwl, ha, hsn, offs_len, hf8, Nat.zero_le])
          refine rput_spec (w := 0) hxi hd.2 (by decide) ?_
          ((try first | refine walk_aw env_ok (none) ?_ | refine walk_aw envR_ok (none) ?_); try simp -implicitDefEqProofs (maxSteps := 1000000) only [go_sem, ↓reduceIte, reduceCtorEq, Nat.reduceLT, Nat.reduceEqDiff, Nat.reduceBEq, Nat.reduceAdd, Nat.reduceMul, Nat.reduceSub, Nat.reduceLeDiff, Int.reduceNeg, Int.reduceLT, Int.reduceLE, Int.reduceEq, Int.reduceAdd, Int.reduceToNat, s0, s4, s5, s6, hws, hw])
          exact ⟨⟨i + 1, rfl, rfl, rfl, by omega, range_snoc hb hbi, hle2⟩, by omega⟩
      · have hbi : bnd l i = true := by rw [bnd, hok, Bool.true_and, decide_eq_true]; omega
        ((try first | refine walk_aw env_ok (none) ?_ | refine walk_aw envR_ok (none) ?_); try simp -implicitDefEqProofs (maxSteps := 1000000) only [go_sem, ↓reduceIte, reduceCtorEq, Nat.reduceLT, Nat.reduceEqDiff, Nat.reduceBEq, Nat.reduceAdd, Nat.reduceMul, Nat.reduceSub, Nat.reduceLeDiff, Int.reduceNeg, Int.reduceLT, Int.reduceLE, Int.reduceEq, Int.reduceAdd, Int.reduceToNat, s0, s4, s5, s6, c, c0, hat, c8, hwl, hsn, offs_len, hf8, Nat.zero_le])
        refine rput_spec (w := 0) hxi hd.2 (by decide) ?_
        ((try first | refine walk_aw env_ok (none) ?_ | refine walk_aw envR_ok (none) ?_); try simp -implicitDefEqProofs (maxSteps := 1000000) only [go_sem, ↓reduceIte, reduceCtorEq, Nat.reduceLT, Nat.reduceEqDiff, Nat.reduceBEq, Nat.reduceAdd, Nat.reduceMul, Nat.reduceSub, Nat.reduceLeDiff, Int.reduceNeg, Int.reduceLT, Int.reduceLE, Int.reduceEq, Int.reduceAdd, Int.reduceToNat, s0, s4, s5, s6, hws, hw])
        exact ⟨⟨i + 1, rfl, rfl, rfl, by omega, range_snoc hb hbi, hle2⟩, by omega⟩
  · have hi' : i = l.length := by omega
    subst hi'
    have hall : l.all okN = true := all_getD fun i hi => by have := range_all hb hi; unfold bnd at this; rw [Bool.and_eq_true] at this; exact this.1
    have hja : ∀ i, i < l.length → shp (l.getD i OV.zero).code = 8 → (l.getD i OV.zero).a ≤ l.length := fun i hi h8 => by
      have := range_all hb hi; unfold bnd at this; rw [Bool.and_eq_true, decide_eq_true_eq] at this; omega
    have hokd : ∀ x ∈ l, x.In ∧ x.d.length ≤ 65536 := fun x hxm => ⟨hx x hxm, (okN_d (List.all_eq_true.1 hall x hxm)).1⟩
    have hle3 := P0_le hokd hl60
    have hsn : nA (offs l l.length) ++ [V.int .i64 (atL l l.length : Int)] = nA (offs l (l.length + 1)) := by rw [nA_snoc, offs_succ]
    have hf8 : (l.length + 1) * 8 ≤ 140737488355328 := by omega
    ((try first | refine walk_aw env_ok (none) ?_ | refine walk_aw envR_ok (none) ?_); try simp -implicitDefEqProofs (maxSteps := 1000000) only [go_sem, ↓reduceIte, reduceCtorEq, Nat.reduceLT, Nat.reduceEqDiff, Nat.reduceBEq, Nat.reduceAdd, Nat.reduceMul, Nat.reduceSub, Nat.reduceLeDiff, Int.reduceNeg, Int.reduceLT, Int.reduceLE, Int.reduceEq, Int.reduceAdd, Int.reduceToNat, s0, s4, s5, s6, c, hsn, offs_len, hf8, Nat.zero_le])
    refine AW.strip 4 ?_
    refine AW.loop (fun st => ∃ i : Nat, st.σ 0 = .sl (oA l) none () ∧ st.σ 4 = .sl (nA (offs l (l.length + 1))) none () ∧ st.σ 7 = .sl (bA (PB l i)) (some 0) () ∧ st.σ 8 = .int .i64 i ∧ i ≤ l.length ∧ (List.range i).all (jOk l) = true ∧ st.H = G)
      (fun st => match st.σ 8 with | .int _ n => l.length - n.toNat | _ => 0) ?_ ?_
    · refine ⟨0, ?_⟩
      ((try first | refine walk_aw env_ok (none) ?_ | refine walk_aw envR_ok (none) ?_); try simp -implicitDefEqProofs (maxSteps := 1000000) only [go_sem, ↓reduceIte, reduceCtorEq, Nat.reduceLT, Nat.reduceEqDiff, Nat.reduceBEq, Nat.reduceAdd, Nat.reduceMul, Nat.reduceSub, Nat.reduceLeDiff, Int.reduceNeg, Int.reduceLT, Int.reduceLE, Int.reduceEq, Int.reduceAdd, Int.reduceToNat, s0])
      exact ⟨rfl, Nat.zero_le _, rfl⟩
    rintro ⟨σ, G2⟩ ⟨i, s0, s4, s7, s8, hi, hj, hG⟩
    simp only at s0 s4 s7 s8 hG
    subst hG
    by_cases c : (i : Int) < l.length
    · have hil : i < l.length := by omega
      have c0 : (0 : Int) ≤ i := by omega
      have hat := oA_at l i (.undef ()) hil
      have hxi := hx _ (gd_mem (d := OV.zero) hil)
      have hsh := (okN_d (List.all_eq_true.1 hall _ (gd_mem (d := OV.zero) hil)))
      have hw : IntKind.i64.wrap ((i : Int) + 1) = ((i + 1 : Nat) : Int) := by rw [wi64]; omega
      have hpl := put1_len hxi (wOf l i)
      have hpb := PB_len hi
      have hle4 := hle3 i hi
      have hps := PB_succ l i
      have hcat : bA (PB l i) ++ bA (put1 (l.getD i OV.zero) (wOf l i)) = bA (PB l (i + 1)) := by rw [hps]; simp [bA]
      have hf : (PB l i).length + (put1 (l.getD i OV.zero) (wOf l i)).length ≤ 140737488355328 := by omega
      ((try first | refine walk_aw env_ok (none) ?_ | refine walk_aw envR_ok (none) ?_); try simp -implicitDefEqProofs (maxSteps := 1000000) only [go_sem, ↓reduceIte, reduceCtorEq, Nat.reduceLT, Nat.reduceEqDiff, Nat.reduceBEq, Nat.reduceAdd, Nat.reduceMul, Nat.reduceSub, Nat.reduceLeDiff, Int.reduceNeg, Int.reduceLT, Int.reduceLE, Int.reduceEq, Int.reduceAdd, Int.reduceToNat, s0, s4, s7, s8, c, c0, hat])
      refine rShape_spec ?_
      by_cases c8 : shp (l.getD i OV.zero).code = 8
      · have haj := hja i hil c8
        have ha0 : (0 : Int) ≤ (l.getD i OV.zero).a := by omega
        have ha1 : ((l.getD i OV.zero).a : Int) < ((l.length + 1 : Nat) : Int) := by omega
        have hi0 : (0 : Int) ≤ ((i + 1 : Nat) : Int) := by omega
        have hi1 : ((i + 1 : Nat) : Int) < ((l.length + 1 : Nat) : Int) := by omega
        have hata := nA_at (offs l (l.length + 1)) (l.getD i OV.zero).a (.undef ()) (by rw [offs_len]; omega)
        rw [offs_at (by omega)] at hata
        have hati := nA_at (offs l (l.length + 1)) (i + 1) (.undef ()) (by rw [offs_len]; omega)
        rw [offs_at (by omega)] at hati
        have b1 := hle3 (l.getD i OV.zero).a (by omega)
        have b2 := hle3 (i + 1) (by omega)
        have hwr : -4611686018427387904 ≤ wayI l i ∧ wayI l i < 4611686018427387904 := by unfold wayI; omega
        have hws : IntKind.i64.wrap ((atL l (l.getD i OV.zero).a : Int) - atL l (i + 1)) = wayI l i := by rw [wi64]; unfold wayI at *; omega
        have hwa : IntKind.i64.wrap ((l.getD i OV.zero).a : Int) = (l.getD i OV.zero).a := by rw [wi64]; omega
        have hwo : wOf l i = wayU l i := if_pos c8
        have hwu : IntKind.u64.wrap (wayI l i) = (wOf l i : Nat) := by rw [hwo, wu64]; unfold wayU; omega
        have hwlt : wOf l i < 18446744073709551616 := by rw [hwo]; exact wayU_lt l i
        ((try first | refine walk_aw env_ok (none) ?_ | refine walk_aw envR_ok (none) ?_); try simp -implicitDefEqProofs (maxSteps := 1000000) only [go_sem, ↓reduceIte, reduceCtorEq, Nat.reduceLT, Nat.reduceEqDiff, Nat.reduceBEq, Nat.reduceAdd, Nat.reduceMul, Nat.reduceSub, Nat.reduceLeDiff, Int.reduceNeg, Int.reduceLT, Int.reduceLE, Int.reduceEq, Int.reduceAdd, Int.reduceToNat, s0, s4, s7, s8, c, c0, hat, c8])
        refine AW.chain env_ok [0, 0, 0, 6, 14, 30, 62, 127, 255, 0, 0, 1024, 3584, 7680, 16383, 32767] [0, 1, 2, 3, 4, 5, 6, 7, 8, 9, 10, 11, 12, 13, 14] [(15, [], [])] mixed (by decide) ?_
        by_cases w1 : wayI l i < -32768
        · have hno : layOk l = false := layOk_no hil (by unfold jOk; rw [decide_eq_false]; omega)
          ((try first | refine walk_aw env_ok (none) ?_ | refine walk_aw envR_ok (none) ?_); try simp -implicitDefEqProofs (maxSteps := 1000000) only [go_sem, ↓reduceIte, reduceCtorEq, Nat.reduceLT, Nat.reduceEqDiff, Nat.reduceBEq, Nat.reduceAdd, Nat.reduceMul, Nat.reduceSub, Nat.reduceLeDiff, Int.reduceNeg, Int.reduceLT, Int.reduceLE, Int.reduceEq, Int.reduceAdd, Int.reduceToNat, s0, s4, s7, s8, c, c0, hat, c8, hw, hwa, ha0, ha1, hi0, hi1, hata, hati, offs_len, hws, w1])
          exact .inl (h0 hno)
        · by_cases w2 : wayI l i > 32767
          · have hno : layOk l = false := layOk_no hil (by unfold jOk; rw [decide_eq_false]; omega)
            ((try first | refine walk_aw env_ok (none) ?_ | refine walk_aw envR_ok (none) ?_); try simp -implicitDefEqProofs (maxSteps := 1000000) only [go_sem, ↓reduceIte, reduceCtorEq, Nat.reduceLT, Nat.reduceEqDiff, Nat.reduceBEq, Nat.reduceAdd, Nat.reduceMul, Nat.reduceSub, Nat.reduceLeDiff, Int.reduceNeg, Int.reduceLT, Int.reduceLE, Int.reduceEq, Int.reduceAdd, Int.reduceToNat, s0, s4, s7, s8, c, c0, hat, c8, hw, hwa, ha0, ha1, hi0, hi1, hata, hati, offs_len, hws, w1, w2])
            exact .inl (h0 hno)
          · have hjk : jOk l i = true := decide_eq_true (.inr ⟨haj, by omega, by omega⟩)
            ((try first | refine walk_aw env_ok (none) ?_ | refine walk_aw envR_ok (none) ?_); try simp -implicitDefEqProofs (maxSteps := 1000000) only [go_sem, ↓reduceIte, reduceCtorEq, Nat.reduceLT, Nat.reduceEqDiff, Nat.reduceBEq, Nat.reduceAdd, Nat.reduceMul, Nat.reduceSub, Nat.reduceLeDiff, Int.reduceNeg, Int.reduceLT, Int.reduceLE, Int.reduceEq, Int.reduceAdd, Int.reduceToNat, s0, s4, s7, s8, c, c0, hat, c8, hw, hwa, ha0, ha1, hi0, hi1, hata, hati, offs_len, hws, w1, w2, hwu])
            refine rput_spec hxi hsh.2 hwlt ?_
            ((try first | refine walk_aw env_ok (none) ?_ | refine walk_aw envR_ok (none) ?_); try simp -implicitDefEqProofs (maxSteps := 1000000) only [go_sem, ↓reduceIte, reduceCtorEq, Nat.reduceLT, Nat.reduceEqDiff, Nat.reduceBEq, Nat.reduceAdd, Nat.reduceMul, Nat.reduceSub, Nat.reduceLeDiff, Int.reduceNeg, Int.reduceLT, Int.reduceLE, Int.reduceEq, Int.reduceAdd, Int.reduceToNat, s0, s4, s7, s8, hcat, hf, hw, Nat.zero_le])
            exact ⟨⟨i + 1, rfl, rfl, by omega, range_snoc hj hjk⟩, by omega⟩
      · have hwo : wOf l i = 0 := if_neg c8
        have hjk : jOk l i = true := decide_eq_true (.inl c8)
        have z1 : ¬ (0 : Int) < -32768 := by omega
        have z2 : ¬ (0 : Int) > 32767 := by omega
        rw [hwo] at hcat hf
        ((try first | refine walk_aw env_ok (none) ?_ | refine walk_aw envR_ok (none) ?_); try simp -implicitDefEqProofs (maxSteps := 1000000) only [go_sem, ↓reduceIte, reduceCtorEq, Nat.reduceLT, Nat.reduceEqDiff, Nat.reduceBEq, Nat.reduceAdd, Nat.reduceMul, Nat.reduceSub, Nat.reduceLeDiff, Int.reduceNeg, Int.reduceLT, Int.reduceLE, Int.reduceEq, Int.reduceAdd, Int.reduceToNat, s0, s4, s7, s8, c, c0, hat, c8, z1, z2])
        refine rput_spec (w := 0) hxi hsh.2 (by decide) ?_
        ((try first | refine walk_aw env_ok (none) ?_ | refine walk_aw envR_ok (none) ?_); try simp -implicitDefEqProofs (maxSteps := 1000000) only [go_sem, ↓reduceIte, reduceCtorEq, Nat.reduceLT, Nat.reduceEqDiff, Nat.reduceBEq, Nat.reduceAdd, Nat.reduceMul, Nat.reduceSub, Nat.reduceLeDiff, Int.reduceNeg, Int.reduceLT, Int.reduceLE, Int.reduceEq, Int.reduceAdd, Int.reduceToNat, s0, s4, s7, s8, hcat, hf, hw, Nat.zero_le])
        exact ⟨⟨i + 1, rfl, rfl, by omega, range_snoc hj hjk⟩, by omega⟩
    · have hi' : i = l.length := by omega
      subst hi'
      have hlay : layOk l = true := by rw [layOk, hall, hj, decide_eq_true hl60]; rfl
      ((try first | refine walk_aw env_ok (none) ?_ | refine walk_aw envR_ok (none) ?_); try simp -implicitDefEqProofs (maxSteps := 1000000) only [go_sem, ↓reduceIte, reduceCtorEq, Nat.reduceLT, Nat.reduceEqDiff, Nat.reduceBEq, Nat.reduceAdd, Nat.reduceMul, Nat.reduceSub, Nat.reduceLeDiff, Int.reduceNeg, Int.reduceLT, Int.reduceLE, Int.reduceEq, Int.reduceAdd, Int.reduceToNat, s0, s4, s7, s8, c])
      exact .inl (h hlay)
end
end Go.Ab
end

section
/- The chapter's example of expressions; what the laws' arguments are. -/
namespace Go.Ab
open V Go.Proofs
set_option maxHeartbeats 16000000
set_option maxRecDepth 10000
set_option linter.unusedSimpArgs false
set_option linter.unusedVariables false

def exO : List OV := [⟨48, 0, 0, []⟩, ⟨40, 2, 0, []⟩, ⟨150, 0, 0, []⟩]
theorem exO_ok : layOk exO = true := by decide
theorem exO_b : layB exO = [48, 40, 0, 0, 150] := by decide
theorem exO_t : oTake [48, 40, 0, 0, 150] = (0, exO) := by decide

section
variable {H : Heap} {Q : A → Heap → Prop}
theorem works18_spec (h : Q (.bool true) H) : AC Try.prog 13 [] H Q := by
  have hin : ∀ x ∈ exO, x.In := by
    intro x hx
    simp only [exO, List.mem_cons, List.not_mem_nil, or_false] at hx
    rcases hx with rfl | rfl | rfl <;> exact ⟨by decide, by decide, by decide⟩
  refine AC.enter (E := env Try.prog 40 (fun _ => .copy) (fun t => t == 9)) env_ok Try.func13 rfl rfl rfl (by simp only [List.length_cons, List.length_nil]; exact of_decide_eq_true rfl) ?_
  ((try first | refine walk_aw env_ok (none) ?_ | refine walk_aw envR_ok (none) ?_); try simp -implicitDefEqProofs (maxSteps := 1000000) only [go_sem, ↓reduceIte, reduceCtorEq, Nat.reduceLT, Nat.reduceEqDiff, Nat.reduceBEq, Nat.reduceAdd, Nat.reduceMul, Nat.reduceSub, Nat.reduceLeDiff, Int.reduceNeg, Int.reduceLT, Int.reduceLE, Int.reduceEq, Int.reduceAdd, Int.reduceToNat])
  refine oPut_spec (l := exO) hin (by decide) (fun e => absurd e (by rw [exO_ok]; decide)) (fun _ => ?_)
  rw [exO_b]
  ((try first | refine walk_aw env_ok (none) ?_ | refine walk_aw envR_ok (none) ?_); try simp -implicitDefEqProofs (maxSteps := 1000000) only [go_sem, ↓reduceIte, reduceCtorEq, Nat.reduceLT, Nat.reduceEqDiff, Nat.reduceBEq, Nat.reduceAdd, Nat.reduceMul, Nat.reduceSub, Nat.reduceLeDiff, Int.reduceNeg, Int.reduceLT, Int.reduceLE, Int.reduceEq, Int.reduceAdd, Int.reduceToNat])
  refine oTake_spec (b := [48, 40, 0, 0, 150]) (by decide) ?_
  rw [exO_t]
  ((try first | refine walk_aw env_ok (none) ?_ | refine walk_aw envR_ok (none) ?_); try simp -implicitDefEqProofs (maxSteps := 1000000) only [go_sem, ↓reduceIte, reduceCtorEq, Nat.reduceLT, Nat.reduceEqDiff, Nat.reduceBEq, Nat.reduceAdd, Nat.reduceMul, Nat.reduceSub, Nat.reduceLeDiff, Int.reduceNeg, Int.reduceLT, Int.reduceLE, Int.reduceEq, Int.reduceAdd, Int.reduceToNat, bA_bytes])
  refine roSame_spec (l := exO) (m := exO) (by decide) ?_
  rw [decide_eq_true rfl]
  ((try first | refine walk_aw env_ok (none) ?_ | refine walk_aw envR_ok (none) ?_); try simp -implicitDefEqProofs (maxSteps := 1000000) only [go_sem, ↓reduceIte, reduceCtorEq, Nat.reduceLT, Nat.reduceEqDiff, Nat.reduceBEq, Nat.reduceAdd, Nat.reduceMul, Nat.reduceSub, Nat.reduceLeDiff, Int.reduceNeg, Int.reduceLT, Int.reduceLE, Int.reduceEq, Int.reduceAdd, Int.reduceToNat])
  refine Shape_spec (c := 40) ?_
  rw [show shp 40 = 8 by decide]
  ((try first | refine walk_aw env_ok (none) ?_ | refine walk_aw envR_ok (none) ?_); try simp -implicitDefEqProofs (maxSteps := 1000000) only [go_sem, ↓reduceIte, reduceCtorEq, Nat.reduceLT, Nat.reduceEqDiff, Nat.reduceBEq, Nat.reduceAdd, Nat.reduceMul, Nat.reduceSub, Nat.reduceLeDiff, Int.reduceNeg, Int.reduceLT, Int.reduceLE, Int.reduceEq, Int.reduceAdd, Int.reduceToNat])
  exact .inl h
theorem big_in {l : List OV} (hx : ∀ x ∈ l, x.a < 18446744073709551616 ∧ x.b < 18446744073709551616) {n : Nat} (hn : n ≤ 2000) (h1 : l.length ≤ n) (h2 : bulkO l l.length ≤ n) : ∀ x ∈ l, x.In :=
  fun x hm => ⟨(hx x hm).1, (hx x hm).2, by have := bulkO_mem l l.length x hm; omega⟩
theorem OpsPuts_spec {l m : List OV} {code : Int} (hl : ∀ x ∈ l, x.a < 18446744073709551616 ∧ x.b < 18446744073709551616) (h : Q (.bool true) H) : AC Try.prog 5 [.sl (oA l) none (), .sl (oA m) none (), .int .i64 code] H Q := by
  refine AC.enter (E := env Try.prog 66 (fun _ => .copy) (fun _ => false)) env_ok Try.func5 rfl rfl rfl (by simp only [List.length_cons, List.length_nil]; exact of_decide_eq_true rfl) ?_
  ((try first | refine walk_aw env_ok (none) ?_ | refine walk_aw envR_ok (none) ?_); try simp -implicitDefEqProofs (maxSteps := 1000000) only [go_sem, ↓reduceIte, reduceCtorEq, Nat.reduceLT, Nat.reduceEqDiff, Nat.reduceBEq, Nat.reduceAdd, Nat.reduceMul, Nat.reduceSub, Nat.reduceLeDiff, Int.reduceNeg, Int.reduceLT, Int.reduceLE, Int.reduceEq, Int.reduceAdd, Int.reduceToNat])
  refine Bulk_spec (n := 2000) (by decide) fun z hz => ?_
  by_cases c1 : z > 2000
  · ((try first | refine walk_aw env_ok (none) ?_ | refine walk_aw envR_ok (none) ?_); try simp -implicitDefEqProofs (maxSteps := 1000000) only [go_sem, ↓reduceIte, reduceCtorEq, Nat.reduceLT, Nat.reduceEqDiff, Nat.reduceBEq, Nat.reduceAdd, Nat.reduceMul, Nat.reduceSub, Nat.reduceLeDiff, Int.reduceNeg, Int.reduceLT, Int.reduceLE, Int.reduceEq, Int.reduceAdd, Int.reduceToNat, c1])
    refine works18_spec ?_
    ((try first | refine walk_aw env_ok (none) ?_ | refine walk_aw envR_ok (none) ?_); try simp -implicitDefEqProofs (maxSteps := 1000000) only [go_sem, ↓reduceIte, reduceCtorEq, Nat.reduceLT, Nat.reduceEqDiff, Nat.reduceBEq, Nat.reduceAdd, Nat.reduceMul, Nat.reduceSub, Nat.reduceLeDiff, Int.reduceNeg, Int.reduceLT, Int.reduceLE, Int.reduceEq, Int.reduceAdd, Int.reduceToNat])
    exact .inl h
  have hb1 := hz.1 (by omega)
  have hin := big_in hl (Nat.le_refl _) hb1.1 hb1.2
  have hll : l.length < 9223372036854775807 := by omega
  ((try first | refine walk_aw env_ok (none) ?_ | refine walk_aw envR_ok (none) ?_); try simp -implicitDefEqProofs (maxSteps := 1000000) only [go_sem, ↓reduceIte, reduceCtorEq, Nat.reduceLT, Nat.reduceEqDiff, Nat.reduceBEq, Nat.reduceAdd, Nat.reduceMul, Nat.reduceSub, Nat.reduceLeDiff, Int.reduceNeg, Int.reduceLT, Int.reduceLE, Int.reduceEq, Int.reduceAdd, Int.reduceToNat, c1])
  refine Bulk_spec (n := 2000) (by decide) fun z2 hz2 => ?_
  by_cases c2 : z2 > 2000
  · ((try first | refine walk_aw env_ok (none) ?_ | refine walk_aw envR_ok (none) ?_); try simp -implicitDefEqProofs (maxSteps := 1000000) only [go_sem, ↓reduceIte, reduceCtorEq, Nat.reduceLT, Nat.reduceEqDiff, Nat.reduceBEq, Nat.reduceAdd, Nat.reduceMul, Nat.reduceSub, Nat.reduceLeDiff, Int.reduceNeg, Int.reduceLT, Int.reduceLE, Int.reduceEq, Int.reduceAdd, Int.reduceToNat, c1, c2])
    refine works18_spec ?_
    ((try first | refine walk_aw env_ok (none) ?_ | refine walk_aw envR_ok (none) ?_); try simp -implicitDefEqProofs (maxSteps := 1000000) only [go_sem, ↓reduceIte, reduceCtorEq, Nat.reduceLT, Nat.reduceEqDiff, Nat.reduceBEq, Nat.reduceAdd, Nat.reduceMul, Nat.reduceSub, Nat.reduceLeDiff, Int.reduceNeg, Int.reduceLT, Int.reduceLE, Int.reduceEq, Int.reduceAdd, Int.reduceToNat])
    exact .inl h
  ((try first | refine walk_aw env_ok (none) ?_ | refine walk_aw envR_ok (none) ?_); try simp -implicitDefEqProofs (maxSteps := 1000000) only [go_sem, ↓reduceIte, reduceCtorEq, Nat.reduceLT, Nat.reduceEqDiff, Nat.reduceBEq, Nat.reduceAdd, Nat.reduceMul, Nat.reduceSub, Nat.reduceLeDiff, Int.reduceNeg, Int.reduceLT, Int.reduceLE, Int.reduceEq, Int.reduceAdd, Int.reduceToNat, c1, c2])
  cases hR : layOk l with
  | false =>
    refine oPut_spec hin hll (fun _ => ?_) (fun e => absurd e (by rw [hR]; decide))
    ((try first | refine walk_aw env_ok (none) ?_ | refine walk_aw envR_ok (none) ?_); try simp -implicitDefEqProofs (maxSteps := 1000000) only [go_sem, ↓reduceIte, reduceCtorEq, Nat.reduceLT, Nat.reduceEqDiff, Nat.reduceBEq, Nat.reduceAdd, Nat.reduceMul, Nat.reduceSub, Nat.reduceLeDiff, Int.reduceNeg, Int.reduceLT, Int.reduceLE, Int.reduceEq, Int.reduceAdd, Int.reduceToNat])
    refine roPut_spec hin hll (fun _ => ?_) (fun e => absurd e (by rw [hR]; decide))
    have hnil : ([] : List A).mapM byteOfA = some [] := rfl
    ((try first | refine walk_aw env_ok (none) ?_ | refine walk_aw envR_ok (none) ?_); try simp -implicitDefEqProofs (maxSteps := 1000000) only [go_sem, ↓reduceIte, reduceCtorEq, Nat.reduceLT, Nat.reduceEqDiff, Nat.reduceBEq, Nat.reduceAdd, Nat.reduceMul, Nat.reduceSub, Nat.reduceLeDiff, Int.reduceNeg, Int.reduceLT, Int.reduceLE, Int.reduceEq, Int.reduceAdd, Int.reduceToNat, hnil])
    refine oRight_spec hin hll ?_
    rw [hR]
    ((try first | refine walk_aw env_ok (none) ?_ | refine walk_aw envR_ok (none) ?_); try simp -implicitDefEqProofs (maxSteps := 1000000) only [go_sem, ↓reduceIte, reduceCtorEq, Nat.reduceLT, Nat.reduceEqDiff, Nat.reduceBEq, Nat.reduceAdd, Nat.reduceMul, Nat.reduceSub, Nat.reduceLeDiff, Int.reduceNeg, Int.reduceLT, Int.reduceLE, Int.reduceEq, Int.reduceAdd, Int.reduceToNat])
    refine Shape_spec ?_
    ((try first | refine walk_aw env_ok (none) ?_ | refine walk_aw envR_ok (none) ?_); try simp -implicitDefEqProofs (maxSteps := 1000000) only [go_sem, ↓reduceIte, reduceCtorEq, Nat.reduceLT, Nat.reduceEqDiff, Nat.reduceBEq, Nat.reduceAdd, Nat.reduceMul, Nat.reduceSub, Nat.reduceLeDiff, Int.reduceNeg, Int.reduceLT, Int.reduceLE, Int.reduceEq, Int.reduceAdd, Int.reduceToNat])
    refine rShape_spec ?_
    ((try first | refine walk_aw env_ok (none) ?_ | refine walk_aw envR_ok (none) ?_); try simp -implicitDefEqProofs (maxSteps := 1000000) only [go_sem, ↓reduceIte, reduceCtorEq, Nat.reduceLT, Nat.reduceEqDiff, Nat.reduceBEq, Nat.reduceAdd, Nat.reduceMul, Nat.reduceSub, Nat.reduceLeDiff, Int.reduceNeg, Int.reduceLT, Int.reduceLE, Int.reduceEq, Int.reduceAdd, Int.reduceToNat])
    refine oSame_spec hll ?_
    ((try first | refine walk_aw env_ok (none) ?_ | refine walk_aw envR_ok (none) ?_); try simp -implicitDefEqProofs (maxSteps := 1000000) only [go_sem, ↓reduceIte, reduceCtorEq, Nat.reduceLT, Nat.reduceEqDiff, Nat.reduceBEq, Nat.reduceAdd, Nat.reduceMul, Nat.reduceSub, Nat.reduceLeDiff, Int.reduceNeg, Int.reduceLT, Int.reduceLE, Int.reduceEq, Int.reduceAdd, Int.reduceToNat])
    refine roSame_spec hll ?_
    ((try first | refine walk_aw env_ok (none) ?_ | refine walk_aw envR_ok (none) ?_); try simp -implicitDefEqProofs (maxSteps := 1000000) only [go_sem, ↓reduceIte, reduceCtorEq, Nat.reduceLT, Nat.reduceEqDiff, Nat.reduceBEq, Nat.reduceAdd, Nat.reduceMul, Nat.reduceSub, Nat.reduceLeDiff, Int.reduceNeg, Int.reduceLT, Int.reduceLE, Int.reduceEq, Int.reduceAdd, Int.reduceToNat])
    refine works18_spec ?_
    ((try first | refine walk_aw env_ok (none) ?_ | refine walk_aw envR_ok (none) ?_); try simp -implicitDefEqProofs (maxSteps := 1000000) only [go_sem, ↓reduceIte, reduceCtorEq, Nat.reduceLT, Nat.reduceEqDiff, Nat.reduceBEq, Nat.reduceAdd, Nat.reduceMul, Nat.reduceSub, Nat.reduceLeDiff, Int.reduceNeg, Int.reduceLT, Int.reduceLE, Int.reduceEq, Int.reduceAdd, Int.reduceToNat])
    exact .inl h
  | true =>
    refine oPut_spec hin hll (fun e => absurd e (by rw [hR]; decide)) (fun _ => ?_)
    ((try first | refine walk_aw env_ok (none) ?_ | refine walk_aw envR_ok (none) ?_); try simp -implicitDefEqProofs (maxSteps := 1000000) only [go_sem, ↓reduceIte, reduceCtorEq, Nat.reduceLT, Nat.reduceEqDiff, Nat.reduceBEq, Nat.reduceAdd, Nat.reduceMul, Nat.reduceSub, Nat.reduceLeDiff, Int.reduceNeg, Int.reduceLT, Int.reduceLE, Int.reduceEq, Int.reduceAdd, Int.reduceToNat])
    refine roPut_spec hin hll (fun e => absurd e (by rw [hR]; decide)) (fun _ => ?_)
    ((try first | refine walk_aw env_ok (none) ?_ | refine walk_aw envR_ok (none) ?_); try simp -implicitDefEqProofs (maxSteps := 1000000) only [go_sem, ↓reduceIte, reduceCtorEq, Nat.reduceLT, Nat.reduceEqDiff, Nat.reduceBEq, Nat.reduceAdd, Nat.reduceMul, Nat.reduceSub, Nat.reduceLeDiff, Int.reduceNeg, Int.reduceLT, Int.reduceLE, Int.reduceEq, Int.reduceAdd, Int.reduceToNat, bA_bytes])
    refine oRight_spec hin hll ?_
    rw [hR]
    ((try first | refine walk_aw env_ok (none) ?_ | refine walk_aw envR_ok (none) ?_); try simp -implicitDefEqProofs (maxSteps := 1000000) only [go_sem, ↓reduceIte, reduceCtorEq, Nat.reduceLT, Nat.reduceEqDiff, Nat.reduceBEq, Nat.reduceAdd, Nat.reduceMul, Nat.reduceSub, Nat.reduceLeDiff, Int.reduceNeg, Int.reduceLT, Int.reduceLE, Int.reduceEq, Int.reduceAdd, Int.reduceToNat])
    refine Shape_spec ?_
    ((try first | refine walk_aw env_ok (none) ?_ | refine walk_aw envR_ok (none) ?_); try simp -implicitDefEqProofs (maxSteps := 1000000) only [go_sem, ↓reduceIte, reduceCtorEq, Nat.reduceLT, Nat.reduceEqDiff, Nat.reduceBEq, Nat.reduceAdd, Nat.reduceMul, Nat.reduceSub, Nat.reduceLeDiff, Int.reduceNeg, Int.reduceLT, Int.reduceLE, Int.reduceEq, Int.reduceAdd, Int.reduceToNat])
    refine rShape_spec ?_
    ((try first | refine walk_aw env_ok (none) ?_ | refine walk_aw envR_ok (none) ?_); try simp -implicitDefEqProofs (maxSteps := 1000000) only [go_sem, ↓reduceIte, reduceCtorEq, Nat.reduceLT, Nat.reduceEqDiff, Nat.reduceBEq, Nat.reduceAdd, Nat.reduceMul, Nat.reduceSub, Nat.reduceLeDiff, Int.reduceNeg, Int.reduceLT, Int.reduceLE, Int.reduceEq, Int.reduceAdd, Int.reduceToNat])
    refine oSame_spec hll ?_
    ((try first | refine walk_aw env_ok (none) ?_ | refine walk_aw envR_ok (none) ?_); try simp -implicitDefEqProofs (maxSteps := 1000000) only [go_sem, ↓reduceIte, reduceCtorEq, Nat.reduceLT, Nat.reduceEqDiff, Nat.reduceBEq, Nat.reduceAdd, Nat.reduceMul, Nat.reduceSub, Nat.reduceLeDiff, Int.reduceNeg, Int.reduceLT, Int.reduceLE, Int.reduceEq, Int.reduceAdd, Int.reduceToNat])
    refine roSame_spec hll ?_
    ((try first | refine walk_aw env_ok (none) ?_ | refine walk_aw envR_ok (none) ?_); try simp -implicitDefEqProofs (maxSteps := 1000000) only [go_sem, ↓reduceIte, reduceCtorEq, Nat.reduceLT, Nat.reduceEqDiff, Nat.reduceBEq, Nat.reduceAdd, Nat.reduceMul, Nat.reduceSub, Nat.reduceLeDiff, Int.reduceNeg, Int.reduceLT, Int.reduceLE, Int.reduceEq, Int.reduceAdd, Int.reduceToNat])
    refine works18_spec ?_
    ((try first | refine walk_aw env_ok (none) ?_ | refine walk_aw envR_ok (none) ?_); try simp -implicitDefEqProofs (maxSteps := 1000000) only [go_sem, ↓reduceIte, reduceCtorEq, Nat.reduceLT, Nat.reduceEqDiff, Nat.reduceBEq, Nat.reduceAdd, Nat.reduceMul, Nat.reduceSub, Nat.reduceLeDiff, Int.reduceNeg, Int.reduceLT, Int.reduceLE, Int.reduceEq, Int.reduceAdd, Int.reduceToNat])
    exact .inl h
end
end Go.Ab
end
