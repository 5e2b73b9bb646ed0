/- Contracts of the functions that the law reaches. -/
import Derived.Test.YtbdhocfaebchfaaOpPartE
import Derived.Test.YtbdhocfaebchfaaOpLAbNil
import Derived.Test.YtbdhocfaebchfaaOpPartC
import Derived.Test.YtbdhocfaebchfaaOpPartD
import Derived.Test.YtbdhocfaebchfaaOpLAbRead
import Derived.Test.YtbdhocfaebchfaaOpLAbLaid
set_option linter.all false
set_option linter.unusedSimpArgs false
set_option linter.unusedVariables false
set_option linter.unnecessarySimpa false
section
/- Operations with addresses in the place of their numbers. -/
namespace Go.Ab
open V Go.Proofs
set_option maxHeartbeats 16000000
set_option maxRecDepth 10000
set_option linter.unusedSimpArgs false
set_option linter.unusedVariables false

def numd (x : OV) : Bool := decide (x.code = 161) || decide (x.code = 162)
/-- An operation with an address in the place of its number. -/
def rz1 (I : List Nat) (x : OV) : Option OV :=
  if numd x = true then (if x.a < I.length then some ⟨if x.code = 162 then 14 else 3, I.getD x.a 0, 0, []⟩ else none)
  else if x.code = 163 then (if (oTake x.d).1 = 0 ∧ (oTake x.d).2.any numd = false then some x else none)
  else some x
def rz (I : List Nat) (l : List OV) : Option (List OV) := l.mapM (rz1 I)
theorem rz_snoc {I : List Nat} {l m : List OV} {x y : OV} (h : rz I l = some m) (hx : rz1 I x = some y) : rz I (l ++ [x]) = some (m ++ [y]) := by
  unfold rz at *
  rw [List.mapM_append, h]
  simp [hx]
theorem rz_none {I : List Nat} {l : List OV} {i : Nat} (hi : i < l.length) (h : rz1 I (l.getD i OV.zero) = none) : rz I l = none := by
  unfold rz
  induction l generalizing i with
  | nil => simp at hi
  | cons x l ih =>
    rw [List.mapM_cons]
    cases i with
    | zero => rw [List.getD_cons_zero] at h; rw [h]; rfl
    | succ i =>
      rw [List.getD_cons_succ] at h
      cases hx : rz1 I x with
      | none => rfl
      | some y => simp [ih (by simpa using hi) h]
theorem rz_get {I : List Nat} {l m : List OV} (h : rz I l = some m) : m.length = l.length ∧ ∀ i, i < l.length → rz1 I (l.getD i OV.zero) = some (m.getD i OV.zero) := by
  unfold rz at h
  induction l generalizing m with
  | nil => rw [List.mapM_nil] at h; cases h; exact ⟨rfl, fun i hi => by simp at hi⟩
  | cons x l ih =>
    rw [List.mapM_cons] at h
    cases hx : rz1 I x with
    | none => rw [hx] at h; cases h
    | some y =>
      rw [hx] at h
      cases hm : l.mapM (rz1 I) with
      | none => rw [hm] at h; cases h
      | some m' =>
        rw [hm] at h
        have h : some (y :: m') = some m := h
        simp only [Option.some.injEq] at h
        subst h
        obtain ⟨k1, k2⟩ := ih hm
        refine ⟨by simp [k1], fun i hi => ?_⟩
        cases i with
        | zero => simpa using hx
        | succ i => simpa using k2 i (by simpa using hi)
theorem numd_no {I : List Nat} {x y : OV} (h : rz1 I x = some y) : numd y = false := by
  unfold rz1 at h
  by_cases c : numd x = true
  · rw [if_pos c] at h
    split at h
    · simp only [Option.some.injEq] at h; subst h
      by_cases e : x.code = 162
      · simp [numd, e]
      · simp [numd, e]
    · cases h
  · rw [if_neg c] at h
    have c : numd x = false := by simpa using c
    split at h
    · split at h
      · simp only [Option.some.injEq] at h; subst h; exact c
      · cases h
    · simp only [Option.some.injEq] at h; subst h; exact c
theorem jump_keep {I : List Nat} {x y : OV} (h : rz1 I x = some y) (h8 : shp x.code = 8) : y = x := by
  unfold rz1 at h
  have hn : ¬ numd x = true := by
    intro e
    simp only [numd, Bool.or_eq_true, decide_eq_true_eq] at e
    rcases e with e | e <;> rw [e] at h8 <;> exact absurd h8 (by decide)
  rw [if_neg hn] at h
  split at h
  · split at h
    · simp only [Option.some.injEq] at h; exact h.symm
    · cases h
  · simp only [Option.some.injEq] at h; exact h.symm
theorem rz1_in {I : List Nat} (hI : ∀ y ∈ I, y < 18446744073709551616) {x y : OV} (hx : x.In) (h : rz1 I x = some y) : y.In := by
  unfold rz1 at h
  split at h
  · split at h
    · rename_i c
      simp only [Option.some.injEq] at h; subst h
      refine ⟨?_, by show 0 < _; decide, by show 0 < _; decide⟩
      exact hI _ (gd_mem c)
    · cases h
  · split at h
    · split at h
      · simp only [Option.some.injEq] at h; subst h; exact hx
      · cases h
    · simp only [Option.some.injEq] at h; subst h; exact hx
theorem tkA_len : ∀ (f : Nat) (s : CS) (out : List OV) (at_ : List Nat) (out' : List OV) (at' : List Nat), tkA f s out at_ = .inr (out', at') → out.length ≤ 60 → out'.length ≤ 60 := by
  intro f
  induction f with
  | zero => intro s out at_ out' at' h; simp [tkA] at h
  | succ f ih =>
    intro s out at_ out' at' h hl
    simp only [tkA] at h
    split at h
    · simp only [Sum.inr.injEq, Prod.mk.injEq] at h
      obtain ⟨rfl, rfl⟩ := h
      exact hl
    · split at h
      · cases h
      · split at h
        · cases h
        · exact ih _ _ _ _ _ h (by rw [List.length_append, List.length_singleton]; omega)
theorem tkJ_len (A : List Nat) : ∀ (out m : List OV) (i : Nat), tkJ A i out = some m → m.length = out.length := by
  intro out
  induction out with
  | nil => intro m i h; simp only [tkJ, Option.some.injEq] at h; subst h; rfl
  | cons x r ih =>
    intro m i h
    simp only [tkJ] at h
    split at h
    · rename_i y m' hy hm
      simp only [Option.some.injEq] at h
      subst h
      simp [ih _ _ hm]
    · cases h
theorem oTake_len (b : List UInt8) : (oTake b).2.length < 9223372036854775807 := by
  unfold oTake
  cases h : tkA 62 ⟨b, 0, 0⟩ [] [] with
  | inl e => simp
  | inr r =>
    obtain ⟨out, at_⟩ := r
    have h1 := tkA_len _ _ _ _ _ _ h (Nat.zero_le _)
    simp only
    cases hj : tkJ (at_ ++ [b.length]) 0 out with
    | none => simp
    | some m => have := tkJ_len _ _ _ _ hj; simp only; omega
section
variable {H : Heap} {Q : A → Heap → Prop}
theorem bClone_spec {a : List UInt8} (hl : a.length ≤ 140737488355328) (h : Q (.sl (bA a) none ()) H) : AC Try.prog 71 [.sl (bA a) none ()] H Q := by
  refine AC.enter (E := env Try.prog 8 (fun _ => .copy) (fun t => t == 2)) env_ok Try.func71 rfl rfl rfl (by simp only [List.length_cons, List.length_nil]; exact of_decide_eq_true rfl) ?_
  refine AW.seq ?_
  ((try first | refine walk_aw env_ok (none) ?_ | refine walk_aw envR_ok (none) ?_); try simp -implicitDefEqProofs (maxSteps := 1000000) only [go_sem, ↓reduceIte, reduceCtorEq, Nat.reduceLT, Nat.reduceEqDiff, Nat.reduceBEq, Nat.reduceAdd, Nat.reduceMul, Nat.reduceSub, Nat.reduceLeDiff, Int.reduceNeg, Int.reduceLT, Int.reduceLE, Int.reduceEq, Int.reduceAdd, Int.reduceToNat])
  refine AW.seq (AW.seq (AW.nil env_ok rfl (fun c => by simp) rfl (by decide) ?_))
  ((try first | refine walk_aw env_ok (none) ?_ | refine walk_aw envR_ok (none) ?_); try simp -implicitDefEqProofs (maxSteps := 1000000) only [go_sem, ↓reduceIte, reduceCtorEq, Nat.reduceLT, Nat.reduceEqDiff, Nat.reduceBEq, Nat.reduceAdd, Nat.reduceMul, Nat.reduceSub, Nat.reduceLeDiff, Int.reduceNeg, Int.reduceLT, Int.reduceLE, Int.reduceEq, Int.reduceAdd, Int.reduceToNat])
  intro b hb
  cases b with
  | true =>
    have hn := hb rfl
    rw [hn] at h
    ((try first | refine walk_aw env_ok (none) ?_ | refine walk_aw envR_ok (none) ?_); try simp -implicitDefEqProofs (maxSteps := 1000000) only [go_sem, ↓reduceIte, reduceCtorEq, Nat.reduceLT, Nat.reduceEqDiff, Nat.reduceBEq, Nat.reduceAdd, Nat.reduceMul, Nat.reduceSub, Nat.reduceLeDiff, Int.reduceNeg, Int.reduceLT, Int.reduceLE, Int.reduceEq, Int.reduceAdd, Int.reduceToNat])
    exact .inl h
  | false =>
    ((try first | refine walk_aw env_ok (none) ?_ | refine walk_aw envR_ok (none) ?_); try simp -implicitDefEqProofs (maxSteps := 1000000) only [go_sem, ↓reduceIte, reduceCtorEq, Nat.reduceLT, Nat.reduceEqDiff, Nat.reduceBEq, Nat.reduceAdd, Nat.reduceMul, Nat.reduceSub, Nat.reduceLeDiff, Int.reduceNeg, Int.reduceLT, Int.reduceLE, Int.reduceEq, Int.reduceAdd, Int.reduceToNat])
    ((try first | refine walk_aw env_ok (none) ?_ | refine walk_aw envR_ok (none) ?_); try simp -implicitDefEqProofs (maxSteps := 1000000) only [go_sem, ↓reduceIte, reduceCtorEq, Nat.reduceLT, Nat.reduceEqDiff, Nat.reduceBEq, Nat.reduceAdd, Nat.reduceMul, Nat.reduceSub, Nat.reduceLeDiff, Int.reduceNeg, Int.reduceLT, Int.reduceLE, Int.reduceEq, Int.reduceAdd, Int.reduceToNat, hl])
    exact .inl h
theorem numbered_spec {x : OV} (h : Q (.bool (numd x)) H) : AC Try.prog 69 [.agg x.cells] H Q := by
  refine AC.enter (E := env Try.prog 11 (fun _ => .copy) (fun _ => false)) env_ok Try.func69 rfl rfl rfl (by simp only [List.length_cons, List.length_nil]; exact of_decide_eq_true rfl) ?_
  unfold numd at h
  by_cases e1 : x.code = 161
  · rw [decide_eq_true e1, Bool.true_or] at h
    ((try first | refine walk_aw env_ok (none) ?_ | refine walk_aw envR_ok (none) ?_); try simp -implicitDefEqProofs (maxSteps := 1000000) only [go_sem, ↓reduceIte, reduceCtorEq, Nat.reduceLT, Nat.reduceEqDiff, Nat.reduceBEq, Nat.reduceAdd, Nat.reduceMul, Nat.reduceSub, Nat.reduceLeDiff, Int.reduceNeg, Int.reduceLT, Int.reduceLE, Int.reduceEq, Int.reduceAdd, Int.reduceToNat, e1])
    exact .inr h
  · rw [decide_eq_false e1, Bool.false_or] at h
    by_cases e2 : x.code = 162
    · rw [decide_eq_true e2] at h
      ((try first | refine walk_aw env_ok (none) ?_ | refine walk_aw envR_ok (none) ?_); try simp -implicitDefEqProofs (maxSteps := 1000000) only [go_sem, ↓reduceIte, reduceCtorEq, Nat.reduceLT, Nat.reduceEqDiff, Nat.reduceBEq, Nat.reduceAdd, Nat.reduceMul, Nat.reduceSub, Nat.reduceLeDiff, Int.reduceNeg, Int.reduceLT, Int.reduceLE, Int.reduceEq, Int.reduceAdd, Int.reduceToNat, e1, e2])
      exact .inr h
    · rw [decide_eq_false e2] at h
      ((try first | refine walk_aw env_ok (none) ?_ | refine walk_aw envR_ok (none) ?_); try simp -implicitDefEqProofs (maxSteps := 1000000) only [go_sem, ↓reduceIte, reduceCtorEq, Nat.reduceLT, Nat.reduceEqDiff, Nat.reduceBEq, Nat.reduceAdd, Nat.reduceMul, Nat.reduceSub, Nat.reduceLeDiff, Int.reduceNeg, Int.reduceLT, Int.reduceLE, Int.reduceEq, Int.reduceAdd, Int.reduceToNat, e1, e2])
      exact .inr h
theorem Resolve_spec {l : List OV} {I : List Nat} (hx : ∀ x ∈ l, x.In) (hl : l.length ≤ 2000) (hI : I.length < 9223372036854775808) (hn : rz I l = none → Q (.tup [.sl [] none (), .int .i64 46]) H)
    (h : ∀ m, rz I l = some m → Q (.tup [.sl (oA m) none (), .int .i64 0]) H) : AC Try.prog 32 [.sl (oA l) none (), .sl (uA I) none ()] H Q := by
  refine AC.enter (E := env Try.prog 63 (fun t => if t == 57 then .take else .copy) (fun t => t == 4)) env_ok Try.func32 rfl rfl rfl (by simp only [List.length_cons, List.length_nil]; exact of_decide_eq_true rfl) ?_
  ((try first | refine walk_aw env_ok (none) ?_ | refine walk_aw envR_ok (none) ?_); try simp -implicitDefEqProofs (maxSteps := 1000000) only [go_sem, ↓reduceIte, reduceCtorEq, Nat.reduceLT, Nat.reduceEqDiff, Nat.reduceBEq, Nat.reduceAdd, Nat.reduceMul, Nat.reduceSub, Nat.reduceLeDiff, Int.reduceNeg, Int.reduceLT, Int.reduceLE, Int.reduceEq, Int.reduceAdd, Int.reduceToNat])
  refine AW.loop (fun st => ∃ (i : Nat) (m : List OV), st.σ 0 = .sl (oA l) none () ∧ st.σ 1 = .sl (uA I) none () ∧ st.σ 6 = .sl (oA m) (some 0) () ∧ st.σ 12 = .sl (oA l) none () ∧ st.σ 13 = .int .i64 l.length ∧ st.σ 14 = .int .i64 i ∧ i ≤ l.length ∧
      m.length = i ∧ rz I (l.take i) = some m ∧ st.H.take H.length = H ∧ H.length ≤ st.H.length)
    (fun st => match st.σ 14 with | .int _ n => l.length - n.toNat | _ => 0) ?_ ?_
  · refine ⟨0, [], ?_⟩
    ((try first | refine walk_aw env_ok (none) ?_ | refine walk_aw envR_ok (none) ?_); try simp -implicitDefEqProofs (maxSteps := 1000000) only [go_sem, ↓reduceIte, reduceCtorEq, Nat.reduceLT, Nat.reduceEqDiff, Nat.reduceBEq, Nat.reduceAdd, Nat.reduceMul, Nat.reduceSub, Nat.reduceLeDiff, Int.reduceNeg, Int.reduceLT, Int.reduceLE, Int.reduceEq, Int.reduceAdd, Int.reduceToNat])
    simp [rz, oA]
  rintro ⟨σ, G⟩ ⟨i, m, s0, s1, s6, s12, s13, s14, hi, hml, hm, hG, hGl⟩
  simp only at s0 s1 s6 s12 s13 s14 hG hGl
  have hG3 : ∀ Z, (G ++ Z).take H.length = H := fun Z => by rw [List.take_append_of_le_length hGl, hG]
  by_cases c : (i : Int) < l.length
  · have hil : i < l.length := by omega
    have c0 : (0 : Int) ≤ i := by omega
    have hat := oA_at l i (.undef ()) hil
    have hw : IntKind.i64.wrap ((i : Int) + 1) = ((i + 1 : Nat) : Int) := by rw [wi64]; omega
    have hxi := hx _ (gd_mem (d := OV.zero) hil)
    have hwI : IntKind.u64.wrap (I.length : Int) = I.length := by rw [wu64]; omega
    have htk : l.take (i + 1) = l.take i ++ [l.getD i OV.zero] := by rw [List.take_succ_eq_append_getElem hil, gd_get hil]
    have hf : (i + 1) * 48 ≤ 140737488355328 := by omega
    have nxt : ∀ y, rz1 I (l.getD i OV.zero) = some y → rz I (l.take (i + 1)) = some (m ++ [y]) := fun y hy => by rw [htk]; exact rz_snoc hm hy
    have bad : rz1 I (l.getD i OV.zero) = none → rz I l = none := rz_none hil
    generalize l.getD i OV.zero = x at *
    ((try first | refine walk_aw env_ok (none) ?_ | refine walk_aw envR_ok (none) ?_); try simp -implicitDefEqProofs (maxSteps := 1000000) only [go_sem, ↓reduceIte, reduceCtorEq, Nat.reduceLT, Nat.reduceEqDiff, Nat.reduceBEq, Nat.reduceAdd, Nat.reduceMul, Nat.reduceSub, Nat.reduceLeDiff, Int.reduceNeg, Int.reduceLT, Int.reduceLE, Int.reduceEq, Int.reduceAdd, Int.reduceToNat, s0, s1, s6, s12, s13, s14, c, c0, hat])
    refine numbered_spec ?_
    cases hnx : numd x with
    | true =>
      by_cases ca : (x.a : Int) ≥ I.length
      · ((try first | refine walk_aw env_ok (none) ?_ | refine walk_aw envR_ok (none) ?_); try simp -implicitDefEqProofs (maxSteps := 1000000) only [go_sem, ↓reduceIte, reduceCtorEq, Nat.reduceLT, Nat.reduceEqDiff, Nat.reduceBEq, Nat.reduceAdd, Nat.reduceMul, Nat.reduceSub, Nat.reduceLeDiff, Int.reduceNeg, Int.reduceLT, Int.reduceLE, Int.reduceEq, Int.reduceAdd, Int.reduceToNat, s0, s1, s6, s12, s13, s14, c, c0, hat, hwI, ca])
        have hb : rz1 I x = none := by rw [rz1, if_pos hnx, if_neg (by omega)]
        exact .inr (by rw [hG3]; exact hn (bad hb))
      · have hai : x.a < I.length := by omega
        have ca0 : (0 : Int) ≤ x.a := by omega
        have ca1 : (x.a : Int) < I.length := by omega
        have hia := uA_at I x.a (.undef ()) hai
        by_cases e2 : x.code = 162
        · have hy : rz1 I x = some ⟨14, I.getD x.a 0, 0, []⟩ := by rw [rz1, if_pos hnx, if_pos hai, if_pos e2]
          have hsn : oA m ++ [V.agg [.int .i64 14, .int .u64 (I.getD x.a 0 : Nat), .int .u64 0, .sl [] none ()]] = oA (m ++ [⟨14, I.getD x.a 0, 0, []⟩]) := oA_snoc m ⟨14, I.getD x.a 0, 0, []⟩
          ((try first | refine walk_aw env_ok (none) ?_ | refine walk_aw envR_ok (none) ?_); try simp -implicitDefEqProofs (maxSteps := 1000000) only [go_sem, ↓reduceIte, reduceCtorEq, Nat.reduceLT, Nat.reduceEqDiff, Nat.reduceBEq, Nat.reduceAdd, Nat.reduceMul, Nat.reduceSub, Nat.reduceLeDiff, Int.reduceNeg, Int.reduceLT, Int.reduceLE, Int.reduceEq, Int.reduceAdd, Int.reduceToNat, s0, s1, s6, s12, s13, s14, c, c0, hat, hwI, ca, e2, hia, ca0, ca1])
          refine bClone_spec (a := []) (Nat.zero_le _) ?_
          rw [show bA [] = [] from rfl]
          have hu : ∀ k : Int, Uni 4 [V.agg [.int .i64 k, .int .u64 (I.getD x.a 0 : Nat), .int .u64 0, .sl [] none ()]] = true := fun k => rfl
          ((try first | refine walk_aw env_ok (none) ?_ | refine walk_aw envR_ok (none) ?_); try simp -implicitDefEqProofs (maxSteps := 1000000) only [go_sem, ↓reduceIte, reduceCtorEq, Nat.reduceLT, Nat.reduceEqDiff, Nat.reduceBEq, Nat.reduceAdd, Nat.reduceMul, Nat.reduceSub, Nat.reduceLeDiff, Int.reduceNeg, Int.reduceLT, Int.reduceLE, Int.reduceEq, Int.reduceAdd, Int.reduceToNat, s0, s1, s6, s12, s13, s14, c, c0, hat, hsn, hu, hf, hw, hml, Nat.zero_le])
          exact ⟨⟨i + 1, _, rfl, rfl, by omega, by simp [hml], nxt _ hy, hG3 _, by omega⟩, by omega⟩
        · have hy : rz1 I x = some ⟨3, I.getD x.a 0, 0, []⟩ := by rw [rz1, if_pos hnx, if_pos hai, if_neg e2]
          have hsn : oA m ++ [V.agg [.int .i64 3, .int .u64 (I.getD x.a 0 : Nat), .int .u64 0, .sl [] none ()]] = oA (m ++ [⟨3, I.getD x.a 0, 0, []⟩]) := oA_snoc m ⟨3, I.getD x.a 0, 0, []⟩
          ((try first | refine walk_aw env_ok (none) ?_ | refine walk_aw envR_ok (none) ?_); try simp -implicitDefEqProofs (maxSteps := 1000000) only [go_sem, ↓reduceIte, reduceCtorEq, Nat.reduceLT, Nat.reduceEqDiff, Nat.reduceBEq, Nat.reduceAdd, Nat.reduceMul, Nat.reduceSub, Nat.reduceLeDiff, Int.reduceNeg, Int.reduceLT, Int.reduceLE, Int.reduceEq, Int.reduceAdd, Int.reduceToNat, s0, s1, s6, s12, s13, s14, c, c0, hat, hwI, ca, e2, hia, ca0, ca1])
          refine bClone_spec (a := []) (Nat.zero_le _) ?_
          rw [show bA [] = [] from rfl]
          have hu : ∀ k : Int, Uni 4 [V.agg [.int .i64 k, .int .u64 (I.getD x.a 0 : Nat), .int .u64 0, .sl [] none ()]] = true := fun k => rfl
          ((try first | refine walk_aw env_ok (none) ?_ | refine walk_aw envR_ok (none) ?_); try simp -implicitDefEqProofs (maxSteps := 1000000) only [go_sem, ↓reduceIte, reduceCtorEq, Nat.reduceLT, Nat.reduceEqDiff, Nat.reduceBEq, Nat.reduceAdd, Nat.reduceMul, Nat.reduceSub, Nat.reduceLeDiff, Int.reduceNeg, Int.reduceLT, Int.reduceLE, Int.reduceEq, Int.reduceAdd, Int.reduceToNat, s0, s1, s6, s12, s13, s14, c, c0, hat, hsn, hu, hf, hw, hml, Nat.zero_le])
          exact ⟨⟨i + 1, _, rfl, rfl, by omega, by simp [hml], nxt _ hy, hG3 _, by omega⟩, by omega⟩
    | false =>
      have hnf : ¬ numd x = true := by rw [hnx]; decide
      have hsn := oA_snoc m x
      have hset : List.take 3 x.cells ++ [V.sl (bA x.d) none ()] = x.cells := rfl
      have hdl : x.d.length ≤ 140737488355328 := by have := hxi.d; omega
      by_cases e3 : x.code = 163
      · ((try first | refine walk_aw env_ok (none) ?_ | refine walk_aw envR_ok (none) ?_); try simp -implicitDefEqProofs (maxSteps := 1000000) only [go_sem, ↓reduceIte, reduceCtorEq, Nat.reduceLT, Nat.reduceEqDiff, Nat.reduceBEq, Nat.reduceAdd, Nat.reduceMul, Nat.reduceSub, Nat.reduceLeDiff, Int.reduceNeg, Int.reduceLT, Int.reduceLE, Int.reduceEq, Int.reduceAdd, Int.reduceToNat, s0, s1, s6, s12, s13, s14, c, c0, hat, e3])
        refine oTake_spec (by have := hxi.d; omega) ?_
        by_cases e0 : (oTake x.d).1 = 0
        · ((try first | refine walk_aw env_ok (none) ?_ | refine walk_aw envR_ok (none) ?_); try simp -implicitDefEqProofs (maxSteps := 1000000) only [go_sem, ↓reduceIte, reduceCtorEq, Nat.reduceLT, Nat.reduceEqDiff, Nat.reduceBEq, Nat.reduceAdd, Nat.reduceMul, Nat.reduceSub, Nat.reduceLeDiff, Int.reduceNeg, Int.reduceLT, Int.reduceLE, Int.reduceEq, Int.reduceAdd, Int.reduceToNat, s0, s1, s6, s12, s13, s14, c, c0, hat, e3, e0])
          have hlen : (oTake x.d).2.length < 9223372036854775807 := oTake_len x.d
          refine ContainsFunc_spec (p := numd) (fun y hy G R hR => numbered_spec hR) hlen ?_
          cases hany : (oTake x.d).2.any numd with
          | true =>
            have hb : rz1 I x = none := by rw [rz1, if_neg hnf, if_pos e3, if_neg (by rw [hany]; simp)]
            ((try first | refine walk_aw env_ok (none) ?_ | refine walk_aw envR_ok (none) ?_); try simp -implicitDefEqProofs (maxSteps := 1000000) only [go_sem, ↓reduceIte, reduceCtorEq, Nat.reduceLT, Nat.reduceEqDiff, Nat.reduceBEq, Nat.reduceAdd, Nat.reduceMul, Nat.reduceSub, Nat.reduceLeDiff, Int.reduceNeg, Int.reduceLT, Int.reduceLE, Int.reduceEq, Int.reduceAdd, Int.reduceToNat, s0, s1, s6, s12, s13, s14, c, c0, hat, e3, e0])
            exact .inr (by rw [hG3]; exact hn (bad hb))
          | false =>
            have hy : rz1 I x = some x := by rw [rz1, if_neg hnf, if_pos e3, if_pos ⟨e0, hany⟩]
            ((try first | refine walk_aw env_ok (none) ?_ | refine walk_aw envR_ok (none) ?_); try simp -implicitDefEqProofs (maxSteps := 1000000) only [go_sem, ↓reduceIte, reduceCtorEq, Nat.reduceLT, Nat.reduceEqDiff, Nat.reduceBEq, Nat.reduceAdd, Nat.reduceMul, Nat.reduceSub, Nat.reduceLeDiff, Int.reduceNeg, Int.reduceLT, Int.reduceLE, Int.reduceEq, Int.reduceAdd, Int.reduceToNat, s0, s1, s6, s12, s13, s14, c, c0, hat, e3, e0])
            refine bClone_spec hdl ?_
            ((try first | refine walk_aw env_ok (none) ?_ | refine walk_aw envR_ok (none) ?_); try simp -implicitDefEqProofs (maxSteps := 1000000) only [go_sem, ↓reduceIte, reduceCtorEq, Nat.reduceLT, Nat.reduceEqDiff, Nat.reduceBEq, Nat.reduceAdd, Nat.reduceMul, Nat.reduceSub, Nat.reduceLeDiff, Int.reduceNeg, Int.reduceLT, Int.reduceLE, Int.reduceEq, Int.reduceAdd, Int.reduceToNat, s0, s1, s6, s12, s13, s14, c, c0, hat, e3, hset, hsn, hf, hw, hml, Nat.zero_le])
            exact ⟨⟨i + 1, _, rfl, rfl, by omega, by simp [hml], nxt _ hy, hG3 _, by omega⟩, by omega⟩
        · have hb : rz1 I x = none := by rw [rz1, if_neg hnf, if_pos e3, if_neg (fun h => e0 h.1)]
          ((try first | refine walk_aw env_ok (none) ?_ | refine walk_aw envR_ok (none) ?_); try simp -implicitDefEqProofs (maxSteps := 1000000) only [go_sem, ↓reduceIte, reduceCtorEq, Nat.reduceLT, Nat.reduceEqDiff, Nat.reduceBEq, Nat.reduceAdd, Nat.reduceMul, Nat.reduceSub, Nat.reduceLeDiff, Int.reduceNeg, Int.reduceLT, Int.reduceLE, Int.reduceEq, Int.reduceAdd, Int.reduceToNat, s0, s1, s6, s12, s13, s14, c, c0, hat, e3, e0])
          exact .inr (by rw [hG3]; exact hn (bad hb))
      · have hy : rz1 I x = some x := by rw [rz1, if_neg hnf, if_neg e3]
        ((try first | refine walk_aw env_ok (none) ?_ | refine walk_aw envR_ok (none) ?_); try simp -implicitDefEqProofs (maxSteps := 1000000) only [go_sem, ↓reduceIte, reduceCtorEq, Nat.reduceLT, Nat.reduceEqDiff, Nat.reduceBEq, Nat.reduceAdd, Nat.reduceMul, Nat.reduceSub, Nat.reduceLeDiff, Int.reduceNeg, Int.reduceLT, Int.reduceLE, Int.reduceEq, Int.reduceAdd, Int.reduceToNat, s0, s1, s6, s12, s13, s14, c, c0, hat, e3])
        refine bClone_spec hdl ?_
        ((try first | refine walk_aw env_ok (none) ?_ | refine walk_aw envR_ok (none) ?_); try simp -implicitDefEqProofs (maxSteps := 1000000) only [go_sem, ↓reduceIte, reduceCtorEq, Nat.reduceLT, Nat.reduceEqDiff, Nat.reduceBEq, Nat.reduceAdd, Nat.reduceMul, Nat.reduceSub, Nat.reduceLeDiff, Int.reduceNeg, Int.reduceLT, Int.reduceLE, Int.reduceEq, Int.reduceAdd, Int.reduceToNat, s0, s1, s6, s12, s13, s14, c, c0, hat, e3, hset, hsn, hf, hw, hml, Nat.zero_le])
        exact ⟨⟨i + 1, _, rfl, rfl, by omega, by simp [hml], nxt _ hy, hG3 _, by omega⟩, by omega⟩
  · have hi' : i = l.length := by omega
    rw [hi', List.take_length] at hm
    ((try first | refine walk_aw env_ok (none) ?_ | refine walk_aw envR_ok (none) ?_); try simp -implicitDefEqProofs (maxSteps := 1000000) only [go_sem, ↓reduceIte, reduceCtorEq, Nat.reduceLT, Nat.reduceEqDiff, Nat.reduceBEq, Nat.reduceAdd, Nat.reduceMul, Nat.reduceSub, Nat.reduceLeDiff, Int.reduceNeg, Int.reduceLT, Int.reduceLE, Int.reduceEq, Int.reduceAdd, Int.reduceToNat, s0, s1, s6, s12, s13, s14, c])
    exact .inr (by rw [hG]; exact h m hm)
end
end Go.Ab
end

section
/- The law OpsJumps answers true. -/
namespace Go.Ab
open V Go.Proofs
set_option maxHeartbeats 16000000
set_option maxRecDepth 10000
set_option linter.unusedSimpArgs false
set_option linter.unusedVariables false

section
variable {H : Heap} {Q : A → Heap → Prop}
theorem OpsJumps_spec {l : List OV} {I : List Nat} (hl : ∀ x ∈ l, x.a < 18446744073709551616 ∧ x.b < 18446744073709551616) (hI : ∀ y ∈ I, y < 18446744073709551616) (hIl : I.length < 9223372036854775808)
    (h : Q (.bool true) H) : AC Try.prog 9 [.sl (oA l) none (), .sl (uA I) none ()] H Q := by
  refine AC.enter (E := env Try.prog 110 (fun _ => .copy) (fun _ => false)) env_ok Try.func9 rfl rfl rfl (by simp only [List.length_cons, List.length_nil]; exact of_decide_eq_true rfl) ?_
  ((try first | refine walk_aw env_ok (none) ?_ | refine walk_aw envR_ok (none) ?_); try simp -implicitDefEqProofs (maxSteps := 1000000) only [go_sem, ↓reduceIte, reduceCtorEq, Nat.reduceLT, Nat.reduceEqDiff, Nat.reduceBEq, Nat.reduceAdd, Nat.reduceMul, Nat.reduceSub, Nat.reduceLeDiff, Int.reduceNeg, Int.reduceLT, Int.reduceLE, Int.reduceEq, Int.reduceAdd, Int.reduceToNat])
  refine works18_spec ?_
  ((try first | refine walk_aw env_ok (none) ?_ | refine walk_aw envR_ok (none) ?_); try simp -implicitDefEqProofs (maxSteps := 1000000) only [go_sem, ↓reduceIte, reduceCtorEq, Nat.reduceLT, Nat.reduceEqDiff, Nat.reduceBEq, Nat.reduceAdd, Nat.reduceMul, Nat.reduceSub, Nat.reduceLeDiff, Int.reduceNeg, Int.reduceLT, Int.reduceLE, Int.reduceEq, Int.reduceAdd, Int.reduceToNat])
  refine Bulk_spec (n := 2000) (by decide) fun z hz => ?_
  by_cases c1 : z > 2000
  · ((try first | refine walk_aw env_ok (none) ?_ | refine walk_aw envR_ok (none) ?_); try simp -implicitDefEqProofs (maxSteps := 1000000) only [go_sem, ↓reduceIte, reduceCtorEq, Nat.reduceLT, Nat.reduceEqDiff, Nat.reduceBEq, Nat.reduceAdd, Nat.reduceMul, Nat.reduceSub, Nat.reduceLeDiff, Int.reduceNeg, Int.reduceLT, Int.reduceLE, Int.reduceEq, Int.reduceAdd, Int.reduceToNat, c1])
    exact .inl h
  have hb1 := hz.1 (by omega)
  have hin := big_in hl (Nat.le_refl _) hb1.1 hb1.2
  have hll : l.length ≤ 2000 := by omega
  ((try first | refine walk_aw env_ok (none) ?_ | refine walk_aw envR_ok (none) ?_); try simp -implicitDefEqProofs (maxSteps := 1000000) only [go_sem, ↓reduceIte, reduceCtorEq, Nat.reduceLT, Nat.reduceEqDiff, Nat.reduceBEq, Nat.reduceAdd, Nat.reduceMul, Nat.reduceSub, Nat.reduceLeDiff, Int.reduceNeg, Int.reduceLT, Int.reduceLE, Int.reduceEq, Int.reduceAdd, Int.reduceToNat, c1])
  refine Resolve_spec hin hll hIl (fun hn => ?_) (fun m hm => ?_)
  · ((try first | refine walk_aw env_ok (none) ?_ | refine walk_aw envR_ok (none) ?_); try simp -implicitDefEqProofs (maxSteps := 1000000) only [go_sem, ↓reduceIte, reduceCtorEq, Nat.reduceLT, Nat.reduceEqDiff, Nat.reduceBEq, Nat.reduceAdd, Nat.reduceMul, Nat.reduceSub, Nat.reduceLeDiff, Int.reduceNeg, Int.reduceLT, Int.reduceLE, Int.reduceEq, Int.reduceAdd, Int.reduceToNat])
    exact .inl h
  obtain ⟨hml, hat2⟩ := rz_get hm
  have hmi : ∀ y ∈ m, y.In := by
    intro y hy
    obtain ⟨i, hi, rfl⟩ := List.mem_iff_getElem.1 hy
    have := hat2 i (by omega)
    rw [gd_get hi] at this
    exact rz1_in hI (hin _ (gd_mem (by omega))) this
  have hmll : m.length < 9223372036854775807 := by omega
  ((try first | refine walk_aw env_ok (none) ?_ | refine walk_aw envR_ok (none) ?_); try simp -implicitDefEqProofs (maxSteps := 1000000) only [go_sem, ↓reduceIte, reduceCtorEq, Nat.reduceLT, Nat.reduceEqDiff, Nat.reduceBEq, Nat.reduceAdd, Nat.reduceMul, Nat.reduceSub, Nat.reduceLeDiff, Int.reduceNeg, Int.reduceLT, Int.reduceLE, Int.reduceEq, Int.reduceAdd, Int.reduceToNat, hml])
  refine AW.loop (fun st => ∃ i : Nat, st.σ 0 = .sl (oA l) none () ∧ st.σ 5 = .sl (oA m) none () ∧ st.σ 34 = .int .i64 l.length ∧ st.σ 35 = .int .i64 i ∧ i ≤ l.length ∧ st.H = H)
    (fun st => match st.σ 35 with | .int _ n => l.length - n.toNat | _ => 0) ?_ ?_
  · refine ⟨0, ?_⟩
    ((try first | refine walk_aw env_ok (none) ?_ | refine walk_aw envR_ok (none) ?_); try simp -implicitDefEqProofs (maxSteps := 1000000) only [go_sem, ↓reduceIte, reduceCtorEq, Nat.reduceLT, Nat.reduceEqDiff, Nat.reduceBEq, Nat.reduceAdd, Nat.reduceMul, Nat.reduceSub, Nat.reduceLeDiff, Int.reduceNeg, Int.reduceLT, Int.reduceLE, Int.reduceEq, Int.reduceAdd, Int.reduceToNat])
    simp
  rintro ⟨σ, G⟩ ⟨i, s0, s5, s34, s35, hi, hG⟩
  simp only at s0 s5 s34 s35 hG
  subst hG
  by_cases c : (i : Int) < l.length
  · have hil : i < l.length := by omega
    have c0 : (0 : Int) ≤ i := by omega
    have him : i < m.length := by omega
    have c2 : (i : Int) < m.length := by omega
    have hat := oA_at l i (.undef ()) hil
    have ham := oA_at m i (.undef ()) him
    have hw : IntKind.i64.wrap ((i : Int) + 1) = ((i + 1 : Nat) : Int) := by rw [wi64]; omega
    have hrz := hat2 i hil
    generalize l.getD i OV.zero = x at *
    generalize m.getD i OV.zero = y at *
    have hno := numd_no hrz
    simp only [numd, Bool.or_eq_false_iff, decide_eq_false_iff_not] at hno
    obtain ⟨n1, n2⟩ := hno
    ((try first | refine walk_aw env_ok (none) ?_ | refine walk_aw envR_ok (none) ?_); try simp -implicitDefEqProofs (maxSteps := 1000000) only [go_sem, ↓reduceIte, reduceCtorEq, Nat.reduceLT, Nat.reduceEqDiff, Nat.reduceBEq, Nat.reduceAdd, Nat.reduceMul, Nat.reduceSub, Nat.reduceLeDiff, Int.reduceNeg, Int.reduceLT, Int.reduceLE, Int.reduceEq, Int.reduceAdd, Int.reduceToNat, s0, s5, s34, s35, c, c0, c2, hat, ham])
    refine AW.chain env_ok [0, 0, 3, 7, 15, 31, 63, 127, 127, 511, 1023, 2047, 4095, 8191, 16383, 32767, 32767, 131071, 262143, 524287, 1048575, 2097151, 4194303, 8388607, 8388607, 33554431, 67108863, 134217727, 8388607, 8388607, 813694975, 1887436799, 4034920447, 8589934591, 17179869183, 34359738367, 34359738367, 137438953471, 274877906943, 549755813887, 34359738367, 34359738367, 3332894621695, 7730941132799, 16527034155007, 35184372088831, 70368744177663, 140737488355327, 281474976710655] [0, 1, 2, 3, 4, 5, 6, 7, 8, 9, 10, 11, 12, 13, 14, 15, 16, 17, 18, 19, 20, 21, 22, 23, 24, 25, 26, 27, 28, 29, 30, 31, 32, 33, 34, 35, 36, 37, 38, 39, 40, 41, 42, 43, 44, 45, 46, 47, 48] [] mixed (by decide) ?_
    ((try first | refine walk_aw env_ok (none) ?_ | refine walk_aw envR_ok (none) ?_); try simp -implicitDefEqProofs (maxSteps := 1000000) only [go_sem, ↓reduceIte, reduceCtorEq, Nat.reduceLT, Nat.reduceEqDiff, Nat.reduceBEq, Nat.reduceAdd, Nat.reduceMul, Nat.reduceSub, Nat.reduceLeDiff, Int.reduceNeg, Int.reduceLT, Int.reduceLE, Int.reduceEq, Int.reduceAdd, Int.reduceToNat, s0, s5, s34, s35, c, c0, c2, hat, ham, n1, n2])
    refine QC.mk (Shape_spec ⟨rfl, rfl⟩) ?_
    by_cases c8 : shp x.code = 8
    · have hyx := jump_keep hrz c8
      rw [hyx]
      rw [hyx] at ham n1 n2
      ((try first | refine walk_aw env_ok (none) ?_ | refine walk_aw envR_ok (none) ?_); try simp -implicitDefEqProofs (maxSteps := 1000000) only [go_sem, ↓reduceIte, reduceCtorEq, Nat.reduceLT, Nat.reduceEqDiff, Nat.reduceBEq, Nat.reduceAdd, Nat.reduceMul, Nat.reduceSub, Nat.reduceLeDiff, Int.reduceNeg, Int.reduceLT, Int.reduceLE, Int.reduceEq, Int.reduceAdd, Int.reduceToNat, s0, s5, s34, s35, c, c0, c2, hat, ham, n1, n2, c8, hw])
      exact ⟨⟨i + 1, rfl, by omega⟩, by omega⟩
    · ((try first | refine walk_aw env_ok (none) ?_ | refine walk_aw envR_ok (none) ?_); try simp -implicitDefEqProofs (maxSteps := 1000000) only [go_sem, ↓reduceIte, reduceCtorEq, Nat.reduceLT, Nat.reduceEqDiff, Nat.reduceBEq, Nat.reduceAdd, Nat.reduceMul, Nat.reduceSub, Nat.reduceLeDiff, Int.reduceNeg, Int.reduceLT, Int.reduceLE, Int.reduceEq, Int.reduceAdd, Int.reduceToNat, s0, s5, s34, s35, c, c0, c2, hat, ham, n1, n2, c8, hw])
      exact ⟨⟨i + 1, rfl, by omega⟩, by omega⟩
  · have hi' : i = l.length := by omega
    ((try first | refine walk_aw env_ok (none) ?_ | refine walk_aw envR_ok (none) ?_); try simp -implicitDefEqProofs (maxSteps := 1000000) only [go_sem, ↓reduceIte, reduceCtorEq, Nat.reduceLT, Nat.reduceEqDiff, Nat.reduceBEq, Nat.reduceAdd, Nat.reduceMul, Nat.reduceSub, Nat.reduceLeDiff, Int.reduceNeg, Int.reduceLT, Int.reduceLE, Int.reduceEq, Int.reduceAdd, Int.reduceToNat, s0, s5, s34, s35, c])
    cases hM : layOk m with
    | false =>
      refine oPut_spec hmi hmll (fun _ => ?_) (fun e => absurd e (by rw [hM]; decide))
      ((try first | refine walk_aw env_ok (none) ?_ | refine walk_aw envR_ok (none) ?_); try simp -implicitDefEqProofs (maxSteps := 1000000) only [go_sem, ↓reduceIte, reduceCtorEq, Nat.reduceLT, Nat.reduceEqDiff, Nat.reduceBEq, Nat.reduceAdd, Nat.reduceMul, Nat.reduceSub, Nat.reduceLeDiff, Int.reduceNeg, Int.reduceLT, Int.reduceLE, Int.reduceEq, Int.reduceAdd, Int.reduceToNat, s0, s5])
      refine oRight_spec hmi hmll ?_
      rw [hM]
      ((try first | refine walk_aw env_ok (none) ?_ | refine walk_aw envR_ok (none) ?_); try simp -implicitDefEqProofs (maxSteps := 1000000) only [go_sem, ↓reduceIte, reduceCtorEq, Nat.reduceLT, Nat.reduceEqDiff, Nat.reduceBEq, Nat.reduceAdd, Nat.reduceMul, Nat.reduceSub, Nat.reduceLeDiff, Int.reduceNeg, Int.reduceLT, Int.reduceLE, Int.reduceEq, Int.reduceAdd, Int.reduceToNat])
      exact .inl h
    | true =>
      refine oPut_spec hmi hmll (fun e => absurd e (by rw [hM]; decide)) (fun _ => ?_)
      ((try first | refine walk_aw env_ok (none) ?_ | refine walk_aw envR_ok (none) ?_); try simp -implicitDefEqProofs (maxSteps := 1000000) only [go_sem, ↓reduceIte, reduceCtorEq, Nat.reduceLT, Nat.reduceEqDiff, Nat.reduceBEq, Nat.reduceAdd, Nat.reduceMul, Nat.reduceSub, Nat.reduceLeDiff, Int.reduceNeg, Int.reduceLT, Int.reduceLE, Int.reduceEq, Int.reduceAdd, Int.reduceToNat, s0, s5])
      have ht := take_put hmi hM
      have hlz : (layB m).length < 140737488355328 := by
        rw [layB_len]; have := P0_small hmi hM m.length (Nat.le_refl _); omega
      refine oTake_spec hlz ?_
      rw [ht]
      ((try first | refine walk_aw env_ok (none) ?_ | refine walk_aw envR_ok (none) ?_); try simp -implicitDefEqProofs (maxSteps := 1000000) only [go_sem, ↓reduceIte, reduceCtorEq, Nat.reduceLT, Nat.reduceEqDiff, Nat.reduceBEq, Nat.reduceAdd, Nat.reduceMul, Nat.reduceSub, Nat.reduceLeDiff, Int.reduceNeg, Int.reduceLT, Int.reduceLE, Int.reduceEq, Int.reduceAdd, Int.reduceToNat, s0, s5])
      refine oSame_spec hmll ?_
      rw [decide_eq_true rfl]
      ((try first | refine walk_aw env_ok (none) ?_ | refine walk_aw envR_ok (none) ?_); try simp -implicitDefEqProofs (maxSteps := 1000000) only [go_sem, ↓reduceIte, reduceCtorEq, Nat.reduceLT, Nat.reduceEqDiff, Nat.reduceBEq, Nat.reduceAdd, Nat.reduceMul, Nat.reduceSub, Nat.reduceLeDiff, Int.reduceNeg, Int.reduceLT, Int.reduceLE, Int.reduceEq, Int.reduceAdd, Int.reduceToNat])
      exact .inl h
end
end Go.Ab
end

section
/- What the laws' arguments are. -/
namespace Go.Ab
open V Go.Proofs
set_option maxHeartbeats 4000000
set_option maxRecDepth 10000
set_option linter.unusedVariables false

theorem U3 : Try.prog.underlying 3 = some (.int .i64) := by kernel_rfl
theorem U5 : Try.prog.underlying 5 = some (.int .u8) := by kernel_rfl
theorem U31 : Try.prog.underlying 31 = some (.int .u64) := by kernel_rfl
theorem U24 : Try.prog.underlying 24 = some (.slice 5) := by kernel_rfl
theorem U29 : Try.prog.underlying 29 = some (.slice 33) := by kernel_rfl
theorem S33 : fieldTypes Try.prog 33 = some [3, 31, 31, 24] := by kernel_rfl
theorem G33 : aggT Try.prog 33 = true := by kernel_rfl
theorem G3 : aggT Try.prog 3 = false := by kernel_rfl
theorem G5 : aggT Try.prog 5 = false := by kernel_rfl
theorem G24 : aggT Try.prog 24 = false := by kernel_rfl
theorem G29 : aggT Try.prog 29 = false := by kernel_rfl

section
variable {n : Nat} {x : A} {c0 : List A}
theorem rc_bytes (h : FitsC Try.prog (n + 2) 24 c0) : ∃ l : List UInt8, c0 = [.sl (bA l) none ()] ∧ l.length ≤ maxLen := by
  obtain ⟨xs, rfl, hl, hx⟩ := fits_slice U24 h
  obtain ⟨l, rfl⟩ := map_of (f := byteA) (l := xs) fun x hm => by
    obtain ⟨i, hi, h1, h2⟩ := fits_int U5 (fits_one G5 (hx x hm))
    refine ⟨UInt8.ofNat i.toNat, ?_⟩
    rw [one_inj hi, byteA]
    have h3 : (0 : Int) ≤ i := h1
    have h4 : i ≤ 255 := h2
    rw [show ((UInt8.ofNat i.toNat).toNat : Int) = i by simp; omega]
  exact ⟨l, rfl, by simpa using hl⟩
theorem rd_bytes (h : FitsV Try.prog (n + 2) 24 x) : ∃ l : List UInt8, x = .sl (bA l) none () ∧ l.length ≤ maxLen := by
  obtain ⟨l, h1, h2⟩ := rc_bytes (fits_one G24 h)
  exact ⟨l, one_inj h1, h2⟩
theorem rd_int (h : FitsV Try.prog (n + 1) 3 x) : ∃ i : Int, x = .int .i64 i := by
  obtain ⟨i, h1, _⟩ := fits_int U3 (fits_one G3 h)
  exact ⟨i, one_inj h1⟩
theorem rd_op (h : FitsV Try.prog (n + 4) 33 x) : ∃ r : OV, x = r.v ∧ r.a < 18446744073709551616 ∧ r.b < 18446744073709551616 := by
  obtain ⟨cs, rfl, hc⟩ := fits_agg G33 h
  obtain ⟨ps, rfl, hl, hp⟩ := fits_struct S33 hc
  match ps, hl with
  | [p0, p1, p2, p3], _ =>
    obtain ⟨c, rfl, _⟩ := fits_int U3 (hp 0 3 p0 rfl rfl)
    obtain ⟨u, rfl, u1, u2⟩ := fits_int U31 (hp 1 31 p1 rfl rfl)
    obtain ⟨s, rfl, s1, s2⟩ := fits_int U31 (hp 2 31 p2 rfl rfl)
    obtain ⟨l, rfl, hl⟩ := rc_bytes (hp 3 24 p3 rfl rfl)
    have u3 : (0 : Int) ≤ u := u1
    have u4 : u ≤ 18446744073709551615 := u2
    have s3 : (0 : Int) ≤ s := s1
    have s4 : s ≤ 18446744073709551615 := s2
    refine ⟨⟨c, u.toNat, s.toNat, l⟩, ?_, by simp only; omega, by simp only; omega⟩
    show _ = V.agg [_, V.int .u64 ((u.toNat : Nat) : Int), V.int .u64 ((s.toNat : Nat) : Int), _]
    rw [show ((u.toNat : Nat) : Int) = u by omega, show ((s.toNat : Nat) : Int) = s by omega]; rfl
theorem rd_ops (h : FitsV Try.prog (n + 5) 29 x) : ∃ l : List OV, x = .sl (oA l) none () ∧ ∀ y ∈ l, y.a < 18446744073709551616 ∧ y.b < 18446744073709551616 := by
  obtain ⟨xs, hx0, _, hx⟩ := fits_slice U29 (fits_one G29 h)
  have hall : ∀ y ∈ xs, ∃ r : {r : OV // r.a < 18446744073709551616 ∧ r.b < 18446744073709551616}, y = r.1.v := fun y hm => by
    obtain ⟨r, h1, h2, h3⟩ := rd_op (n := n) (hx y hm)
    exact ⟨⟨r, h2, h3⟩, h1⟩
  obtain ⟨l, rfl⟩ := map_of (f := fun r : {r : OV // r.a < 18446744073709551616 ∧ r.b < 18446744073709551616} => r.1.v) (l := xs) hall
  refine ⟨l.map (·.1), ?_, fun y hm => ?_⟩
  · rw [one_inj hx0, oA, List.map_map]; rfl
  · obtain ⟨r, _, rfl⟩ := List.mem_map.1 hm
    exact r.2
end
theorem tabs_none {W : World} : TabsAt W := fun b cs hb => by cases hb
end Go.Ab
end

section
/- What the laws' arguments are: numbers. -/
namespace Go.Ab
open V Go.Proofs
set_option maxHeartbeats 4000000
set_option maxRecDepth 10000
set_option linter.unusedVariables false
theorem U69 : Try.prog.underlying 69 = some (.slice 31) := by kernel_rfl
theorem G31 : aggT Try.prog 31 = false := by kernel_rfl
theorem G69 : aggT Try.prog 69 = false := by kernel_rfl
theorem rd_u64s {n : Nat} {x : A} (h : FitsV Try.prog (n + 2) 69 x) : ∃ l : List Nat, x = .sl (uA l) none () ∧ l.length ≤ maxLen ∧ ∀ y ∈ l, y < 18446744073709551616 := by
  obtain ⟨xs, he, hlen, hx⟩ := fits_slice U69 (fits_one G69 h)
  rw [one_inj he]
  obtain ⟨l, hl⟩ := map_of (f := fun y : { y : Nat // y < 18446744073709551616 } => V.int .u64 (y.1 : Int)) (l := xs) fun x hm => by
    obtain ⟨i, hi, h1, h2⟩ := fits_int U31 (fits_one G31 (hx x hm))
    have h1' : 0 ≤ i := h1
    have h2' : i ≤ 18446744073709551615 := h2
    refine ⟨⟨i.toNat, by omega⟩, ?_⟩
    rw [one_inj hi]
    congr 1
    show i = ((i.toNat : Nat) : Int)
    omega
  refine ⟨l.map (·.1), ?_, ?_, ?_⟩
  · rw [hl]; simp [uA, Function.comp_def]
  · rw [hl] at hlen; simpa using hlen
  · intro y hy
    obtain ⟨z, _, rfl⟩ := List.mem_map.1 hy
    exact z.2
end Go.Ab
end
