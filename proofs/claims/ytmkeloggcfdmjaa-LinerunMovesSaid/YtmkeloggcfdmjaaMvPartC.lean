/- Contracts of the functions that the law reaches. -/
import Derived.Test.YtmkeloggcfdmjaaMvPartB
set_option linter.all false
set_option linter.unusedSimpArgs false
set_option linter.unusedVariables false
set_option linter.unnecessarySimpa false
section
/- Packages linehead and sindriref21: headers that may be. -/
namespace Go.Ab
open V Go.Proofs
set_option maxHeartbeats 4000000
set_option maxRecDepth 10000
set_option linter.unusedSimpArgs false
set_option linter.unusedVariables false

/-- A header. -/
structure HD where
  wide : Bool
  stmt : Bool
  min : Int
  base : Int
  range : Int
  codes : Int
  lens : List Int
  dirs : List ByteArray
  files : List (ByteArray × Int)
  prog : Nat
  stop : Nat

def iA (l : List Int) : List A := l.map fun x => .int .i64 x
def tA (l : List ByteArray) : List A := l.map fun x => .str x
def fA (l : List (ByteArray × Int)) : List A := l.map fun x => .agg [.str x.1, .int .i64 x.2]

theorem flagless_map {α : Type} (f : α → A) (hf : ∀ x, (f x).flagless = true) (l : List α) : flaglessL (l.map f) = true := by
  rw [flaglessL_all]; simp only [List.all_eq_true, List.mem_map]; rintro _ ⟨x, _, rfl⟩; exact hf x
theorem low_map {α : Type} (f : α → A) (n : Nat) (hf : ∀ x, (f x).low n = true) (l : List α) : lowL n (l.map f) = true := by
  rw [lowL_all]; simp only [List.all_eq_true, List.mem_map]; rintro _ ⟨x, _, rfl⟩; exact hf x
theorem uni_map {α : Type} (f : α → A) (k : Nat) (hf : ∀ x, (f x).cells.length = k) (l : List α) : Uni k (l.map f) = true := by
  simp only [Uni, List.all_map, List.all_eq_true]; intro x _; simp [hf x]
theorem strip_map {α : Type} (f : α → A) (hf : ∀ x, (f x).strip = f x) (l : List α) : stripL (l.map f) = l.map f := by
  induction l with
  | nil => rfl
  | cons x l ih => show V.strip (f x) :: stripL (l.map f) = _; rw [ih, hf]; rfl
theorem share_map {α : Type} (f : α → A) (hf : ∀ x, (f x).share = f x) (l : List α) : shareL (l.map f) = l.map f := by
  induction l with
  | nil => rfl
  | cons x l ih => show V.share (f x) :: shareL (l.map f) = _; rw [ih, hf]; rfl
theorem getD_map {α : Type} (f : α → A) (l : List α) (i : Nat) (d : A) (h : i < l.length) : (l.map f).getD i d = f l[i] := by simp [h]

theorem iA_flagless (l : List Int) : flaglessL (iA l) = true := flagless_map _ (fun _ => rfl) l
theorem tA_flagless (l : List ByteArray) : flaglessL (tA l) = true := flagless_map _ (fun _ => rfl) l
theorem fA_flagless (l : List (ByteArray × Int)) : flaglessL (fA l) = true := flagless_map _ (fun _ => rfl) l
theorem iA_low (n : Nat) (l : List Int) : lowL n (iA l) = true := low_map _ n (fun _ => rfl) l
theorem tA_low (n : Nat) (l : List ByteArray) : lowL n (tA l) = true := low_map _ n (fun _ => rfl) l
theorem fA_low (n : Nat) (l : List (ByteArray × Int)) : lowL n (fA l) = true := low_map _ n (fun _ => rfl) l
theorem iA_uni (l : List Int) : Uni 1 (iA l) = true := uni_map _ 1 (fun _ => rfl) l
theorem tA_uni (l : List ByteArray) : Uni 1 (tA l) = true := uni_map _ 1 (fun _ => rfl) l
theorem fA_uni (l : List (ByteArray × Int)) : Uni 2 (fA l) = true := uni_map _ 2 (fun _ => rfl) l
theorem iA_len (l : List Int) : (iA l).length = l.length := by simp [iA]
theorem tA_len (l : List ByteArray) : (tA l).length = l.length := by simp [tA]
theorem fA_len (l : List (ByteArray × Int)) : (fA l).length = l.length := by simp [fA]
theorem iA_at (l : List Int) (i : Nat) (d : A) (h : i < l.length) : (iA l).getD i d = .int .i64 l[i] := getD_map _ l i d h
theorem tA_at (l : List ByteArray) (i : Nat) (d : A) (h : i < l.length) : (tA l).getD i d = .str l[i] := getD_map _ l i d h
theorem fA_at (l : List (ByteArray × Int)) (i : Nat) (d : A) (h : i < l.length) : (fA l).getD i d = .agg [.str l[i].1, .int .i64 l[i].2] := getD_map _ l i d h
attribute [go_sem] iA_flagless tA_flagless fA_flagless iA_low tA_low fA_low iA_uni tA_uni fA_uni iA_len tA_len fA_len

def HD.cells (h : HD) : List A := [.bool h.wide, .bool h.stmt, .int .i64 h.min, .int .i64 h.base, .int .i64 h.range, .int .i64 h.codes, .sl (iA h.lens) none (), .sl (tA h.dirs) none (), .sl (fA h.files) none (), .int .u64 h.prog, .int .u64 h.stop]
theorem hd_len (h : HD) : h.cells.length = 11 := rfl
theorem hd_0 (h : HD) : h.cells[0]? = some (.bool h.wide) := rfl
theorem hd_1 (h : HD) : h.cells[1]? = some (.bool h.stmt) := rfl
theorem hd_2 (h : HD) : h.cells[2]? = some (.int .i64 h.min) := rfl
theorem hd_3 (h : HD) : h.cells[3]? = some (.int .i64 h.base) := rfl
theorem hd_4 (h : HD) : h.cells[4]? = some (.int .i64 h.range) := rfl
theorem hd_5 (h : HD) : h.cells[5]? = some (.int .i64 h.codes) := rfl
theorem hd_6 (h : HD) : h.cells[6]? = some (.sl (iA h.lens) none ()) := rfl
theorem hd_7 (h : HD) : h.cells[7]? = some (.sl (tA h.dirs) none ()) := rfl
theorem hd_8 (h : HD) : h.cells[8]? = some (.sl (fA h.files) none ()) := rfl
theorem hd_9 (h : HD) : h.cells[9]? = some (.int .u64 h.prog) := rfl
theorem hd_10 (h : HD) : h.cells[10]? = some (.int .u64 h.stop) := rfl
theorem hd_take (h : HD) : h.cells.take 11 = h.cells := rfl
theorem hd_flagless (h : HD) : flaglessL h.cells = true := by
  rw [flaglessL_all]; simp [HD.cells, flagless, iA_flagless, tA_flagless, fA_flagless]
theorem hd_low (h : HD) (n : Nat) : lowL n h.cells = true := by
  rw [lowL_all]; simp [HD.cells, V.low, iA_low, tA_low, fA_low]
theorem hd_solid (h : HD) : h.cells.all solid = true := rfl
attribute [go_sem] hd_len hd_0 hd_1 hd_2 hd_3 hd_4 hd_5 hd_6 hd_7 hd_8 hd_9 hd_10 hd_take hd_flagless hd_low hd_solid

def known : List Int := [0, 1, 1, 1, 1, 0, 0, 0, 1, 0, 0, 1]

/-- May a header be: its numbers. -/
def HD.nums (h : HD) : Prop := (1 ≤ h.min ∧ h.min ≤ 255) ∧ (-128 ≤ h.base ∧ h.base ≤ 127) ∧ (1 ≤ h.range ∧ h.range ≤ 255) ∧ (1 ≤ h.codes ∧ h.codes ≤ 255) ∧ (h.lens.length : Int) = h.codes - 1 ∧ (1 ≤ (h.dirs.length : Int) ∧ (h.dirs.length : Int) ≤ 200) ∧ (h.files.length : Int) ≤ 200
def HD.lensOk (h : HD) : Prop := ∀ i x, h.lens[i]? = some x → 0 ≤ x ∧ x ≤ 255 ∧ (i < 12 → x = known.getD i 0)
def HD.dirsOk (h : HD) : Prop := ∀ d ∈ h.dirs, textOk d = true
def HD.filesOk (h : HD) : Prop := ∀ f ∈ h.files, textOk f.1 = true ∧ 0 ≤ f.2 ∧ f.2 ≤ (h.dirs.length : Int) - 1
def HD.Right (h : HD) : Prop := h.nums ∧ h.lensOk ∧ h.dirsOk ∧ h.filesOk

/-- What a header in memory always is. -/
def HD.In (h : HD) : Prop := h.lens.length < 4611686018427387904 ∧ h.dirs.length < 4611686018427387904 ∧ h.files.length < 4611686018427387904 ∧ (∀ d ∈ h.dirs, d.size < 4611686018427387904) ∧ ∀ f ∈ h.files, f.1.size < 4611686018427387904

section
variable {hd : HD} {H : Heap} {Q : A → Heap → Prop}

theorem in_spec {n a b : Int} (h : Q (.bool (decide (a ≤ n ∧ n ≤ b))) H) : AC Try.prog 29 [.int .i64 n, .int .i64 a, .int .i64 b] H Q := by
  refine AC.enter (E := env Try.prog 15 (fun _ => .copy) (fun _ => false)) env_ok Try.func29 rfl rfl rfl (by simp only [List.length_cons, List.length_nil]; exact of_decide_eq_true rfl) ?_
  by_cases c : n ≥ a
  · ((try simp only [go_sem, ↓reduceIte, reduceCtorEq, Nat.reduceLT, Nat.reduceEqDiff, Nat.reduceBEq, Nat.reduceAdd, Nat.reduceMul, Nat.reduceSub, Nat.reduceLeDiff, Int.reduceNeg, Int.reduceLT, Int.reduceLE, Int.reduceEq, Int.reduceAdd, Int.reduceToNat, c]); repeat ((first | refine AW.seq ?_ | refine AW.region env_ok ?_ | refine AW.region envR_ok ?_ | refine AW.skip ?_ | refine AW.block ?_ | refine AW.exit ?_ | refine AW.ret ?_ | (refine AW.cond (b := true) ?_ ?_; simp only [ev, upd, ↓reduceIte, Nat.reduceEqDiff]; rw [if_pos rfl]) | (refine AW.cond (b := false) ?_ ?_; simp only [ev, upd, ↓reduceIte, Nat.reduceEqDiff]; rw [if_neg Bool.false_ne_true]) | fail) <;> try simp only [go_sem, ↓reduceIte, reduceCtorEq, Nat.reduceLT, Nat.reduceEqDiff, Nat.reduceBEq, Nat.reduceAdd, Nat.reduceMul, Nat.reduceSub, Nat.reduceLeDiff, Int.reduceNeg, Int.reduceLT, Int.reduceLE, Int.reduceEq, Int.reduceAdd, Int.reduceToNat, c]))
    rw [show decide (a ≤ n ∧ n ≤ b) = decide (n ≤ b) by apply decide_eq_decide.2; omega] at h
    exact .inl h
  · ((try simp only [go_sem, ↓reduceIte, reduceCtorEq, Nat.reduceLT, Nat.reduceEqDiff, Nat.reduceBEq, Nat.reduceAdd, Nat.reduceMul, Nat.reduceSub, Nat.reduceLeDiff, Int.reduceNeg, Int.reduceLT, Int.reduceLE, Int.reduceEq, Int.reduceAdd, Int.reduceToNat, c]); repeat ((first | refine AW.seq ?_ | refine AW.region env_ok ?_ | refine AW.region envR_ok ?_ | refine AW.skip ?_ | refine AW.block ?_ | refine AW.exit ?_ | refine AW.ret ?_ | (refine AW.cond (b := true) ?_ ?_; simp only [ev, upd, ↓reduceIte, Nat.reduceEqDiff]; rw [if_pos rfl]) | (refine AW.cond (b := false) ?_ ?_; simp only [ev, upd, ↓reduceIte, Nat.reduceEqDiff]; rw [if_neg Bool.false_ne_true]) | fail) <;> try simp only [go_sem, ↓reduceIte, reduceCtorEq, Nat.reduceLT, Nat.reduceEqDiff, Nat.reduceBEq, Nat.reduceAdd, Nat.reduceMul, Nat.reduceSub, Nat.reduceLeDiff, Int.reduceNeg, Int.reduceLT, Int.reduceLE, Int.reduceEq, Int.reduceAdd, Int.reduceToNat, c]))
    rw [decide_eq_false (by omega)] at h
    exact .inl h

theorem cut1 (H : Heap) (l : Heap) : (H ++ l).take H.length = H := List.take_left ..
theorem cut2 (H : Heap) (l m : Heap) : (H ++ l ++ m).take H.length = H := by rw [List.append_assoc]; exact List.take_left ..

theorem set_last (H : Heap) (x y : Ob Unit) : (H ++ [x]).set H.length y = H ++ [y] := by
  rw [List.set_append_right _ _ (Nat.le_refl _), Nat.sub_self]; rfl

theorem standard_spec (h : Q (.agg (iA known)) H) : AC Try.prog 30 [] H Q := by
  refine AC.enter (E := env Try.prog 2 (fun _ => .copy) (fun _ => false)) env_ok Try.func30 rfl rfl rfl (by simp only [List.length_cons, List.length_nil]; exact of_decide_eq_true rfl) ?_
  ((try simp only [go_sem, ↓reduceIte, reduceCtorEq, Nat.reduceLT, Nat.reduceEqDiff, Nat.reduceBEq, Nat.reduceAdd, Nat.reduceMul, Nat.reduceSub, Nat.reduceLeDiff, Int.reduceNeg, Int.reduceLT, Int.reduceLE, Int.reduceEq, Int.reduceAdd, Int.reduceToNat, get_last, set_last]); repeat ((first | refine AW.seq ?_ | refine AW.region env_ok ?_ | refine AW.region envR_ok ?_ | refine AW.skip ?_ | refine AW.block ?_ | refine AW.exit ?_ | refine AW.ret ?_ | (refine AW.cond (b := true) ?_ ?_; simp only [ev, upd, ↓reduceIte, Nat.reduceEqDiff]; rw [if_pos rfl]) | (refine AW.cond (b := false) ?_ ?_; simp only [ev, upd, ↓reduceIte, Nat.reduceEqDiff]; rw [if_neg Bool.false_ne_true]) | fail) <;> try simp only [go_sem, ↓reduceIte, reduceCtorEq, Nat.reduceLT, Nat.reduceEqDiff, Nat.reduceBEq, Nat.reduceAdd, Nat.reduceMul, Nat.reduceSub, Nat.reduceLeDiff, Int.reduceNeg, Int.reduceLT, Int.reduceLE, Int.reduceEq, Int.reduceAdd, Int.reduceToNat, get_last, set_last]))
  exact .inr (by rw [cut1]; exact h)

open Classical in
theorem headRight_spec (hi : hd.In) (h : Q (.bool (decide hd.Right)) H) : AC Try.prog 17 [.agg hd.cells] H Q := by
  have hno : ¬ hd.Right → Q (.bool false) H := fun c => by rwa [decide_eq_false c] at h
  obtain ⟨i1, i2, i3, i4, i5⟩ := id hi
  refine AC.enter (E := env Try.prog 119 (fun _ => .copy) (fun _ => false)) env_ok Try.func17 rfl rfl rfl (by simp only [List.length_cons, List.length_nil]; exact of_decide_eq_true rfl) ?_
  ((try simp only [go_sem, ↓reduceIte, reduceCtorEq, Nat.reduceLT, Nat.reduceEqDiff, Nat.reduceBEq, Nat.reduceAdd, Nat.reduceMul, Nat.reduceSub, Nat.reduceLeDiff, Int.reduceNeg, Int.reduceLT, Int.reduceLE, Int.reduceEq, Int.reduceAdd, Int.reduceToNat, get_last]); repeat ((first | refine AW.seq ?_ | refine AW.region env_ok ?_ | refine AW.region envR_ok ?_ | refine AW.skip ?_ | refine AW.block ?_ | refine AW.exit ?_ | refine AW.ret ?_ | (refine AW.cond (b := true) ?_ ?_; simp only [ev, upd, ↓reduceIte, Nat.reduceEqDiff]; rw [if_pos rfl]) | (refine AW.cond (b := false) ?_ ?_; simp only [ev, upd, ↓reduceIte, Nat.reduceEqDiff]; rw [if_neg Bool.false_ne_true]) | fail) <;> try simp only [go_sem, ↓reduceIte, reduceCtorEq, Nat.reduceLT, Nat.reduceEqDiff, Nat.reduceBEq, Nat.reduceAdd, Nat.reduceMul, Nat.reduceSub, Nat.reduceLeDiff, Int.reduceNeg, Int.reduceLT, Int.reduceLE, Int.reduceEq, Int.reduceAdd, Int.reduceToNat, get_last]))
  refine in_spec ?_
  by_cases c1 : 1 ≤ hd.min ∧ hd.min ≤ 255
  case neg => ((try simp only [go_sem, ↓reduceIte, reduceCtorEq, Nat.reduceLT, Nat.reduceEqDiff, Nat.reduceBEq, Nat.reduceAdd, Nat.reduceMul, Nat.reduceSub, Nat.reduceLeDiff, Int.reduceNeg, Int.reduceLT, Int.reduceLE, Int.reduceEq, Int.reduceAdd, Int.reduceToNat, c1]); repeat ((first | refine AW.seq ?_ | refine AW.region env_ok ?_ | refine AW.region envR_ok ?_ | refine AW.skip ?_ | refine AW.block ?_ | refine AW.exit ?_ | refine AW.ret ?_ | (refine AW.cond (b := true) ?_ ?_; simp only [ev, upd, ↓reduceIte, Nat.reduceEqDiff]; rw [if_pos rfl]) | (refine AW.cond (b := false) ?_ ?_; simp only [ev, upd, ↓reduceIte, Nat.reduceEqDiff]; rw [if_neg Bool.false_ne_true]) | fail) <;> try simp only [go_sem, ↓reduceIte, reduceCtorEq, Nat.reduceLT, Nat.reduceEqDiff, Nat.reduceBEq, Nat.reduceAdd, Nat.reduceMul, Nat.reduceSub, Nat.reduceLeDiff, Int.reduceNeg, Int.reduceLT, Int.reduceLE, Int.reduceEq, Int.reduceAdd, Int.reduceToNat, c1])); exact .inr (by rw [cut1]; exact hno fun c => c1 c.1.1)
  ((try simp only [go_sem, ↓reduceIte, reduceCtorEq, Nat.reduceLT, Nat.reduceEqDiff, Nat.reduceBEq, Nat.reduceAdd, Nat.reduceMul, Nat.reduceSub, Nat.reduceLeDiff, Int.reduceNeg, Int.reduceLT, Int.reduceLE, Int.reduceEq, Int.reduceAdd, Int.reduceToNat, c1, get_last]); repeat ((first | refine AW.seq ?_ | refine AW.region env_ok ?_ | refine AW.region envR_ok ?_ | refine AW.skip ?_ | refine AW.block ?_ | refine AW.exit ?_ | refine AW.ret ?_ | (refine AW.cond (b := true) ?_ ?_; simp only [ev, upd, ↓reduceIte, Nat.reduceEqDiff]; rw [if_pos rfl]) | (refine AW.cond (b := false) ?_ ?_; simp only [ev, upd, ↓reduceIte, Nat.reduceEqDiff]; rw [if_neg Bool.false_ne_true]) | fail) <;> try simp only [go_sem, ↓reduceIte, reduceCtorEq, Nat.reduceLT, Nat.reduceEqDiff, Nat.reduceBEq, Nat.reduceAdd, Nat.reduceMul, Nat.reduceSub, Nat.reduceLeDiff, Int.reduceNeg, Int.reduceLT, Int.reduceLE, Int.reduceEq, Int.reduceAdd, Int.reduceToNat, c1, get_last]))
  refine in_spec ?_
  by_cases c2 : -128 ≤ hd.base ∧ hd.base ≤ 127
  case neg => ((try simp only [go_sem, ↓reduceIte, reduceCtorEq, Nat.reduceLT, Nat.reduceEqDiff, Nat.reduceBEq, Nat.reduceAdd, Nat.reduceMul, Nat.reduceSub, Nat.reduceLeDiff, Int.reduceNeg, Int.reduceLT, Int.reduceLE, Int.reduceEq, Int.reduceAdd, Int.reduceToNat, c1, c2]); repeat ((first | refine AW.seq ?_ | refine AW.region env_ok ?_ | refine AW.region envR_ok ?_ | refine AW.skip ?_ | refine AW.block ?_ | refine AW.exit ?_ | refine AW.ret ?_ | (refine AW.cond (b := true) ?_ ?_; simp only [ev, upd, ↓reduceIte, Nat.reduceEqDiff]; rw [if_pos rfl]) | (refine AW.cond (b := false) ?_ ?_; simp only [ev, upd, ↓reduceIte, Nat.reduceEqDiff]; rw [if_neg Bool.false_ne_true]) | fail) <;> try simp only [go_sem, ↓reduceIte, reduceCtorEq, Nat.reduceLT, Nat.reduceEqDiff, Nat.reduceBEq, Nat.reduceAdd, Nat.reduceMul, Nat.reduceSub, Nat.reduceLeDiff, Int.reduceNeg, Int.reduceLT, Int.reduceLE, Int.reduceEq, Int.reduceAdd, Int.reduceToNat, c1, c2])); exact .inr (by rw [cut1]; exact hno fun c => c2 c.1.2.1)
  ((try simp only [go_sem, ↓reduceIte, reduceCtorEq, Nat.reduceLT, Nat.reduceEqDiff, Nat.reduceBEq, Nat.reduceAdd, Nat.reduceMul, Nat.reduceSub, Nat.reduceLeDiff, Int.reduceNeg, Int.reduceLT, Int.reduceLE, Int.reduceEq, Int.reduceAdd, Int.reduceToNat, c1, c2, get_last]); repeat ((first | refine AW.seq ?_ | refine AW.region env_ok ?_ | refine AW.region envR_ok ?_ | refine AW.skip ?_ | refine AW.block ?_ | refine AW.exit ?_ | refine AW.ret ?_ | (refine AW.cond (b := true) ?_ ?_; simp only [ev, upd, ↓reduceIte, Nat.reduceEqDiff]; rw [if_pos rfl]) | (refine AW.cond (b := false) ?_ ?_; simp only [ev, upd, ↓reduceIte, Nat.reduceEqDiff]; rw [if_neg Bool.false_ne_true]) | fail) <;> try simp only [go_sem, ↓reduceIte, reduceCtorEq, Nat.reduceLT, Nat.reduceEqDiff, Nat.reduceBEq, Nat.reduceAdd, Nat.reduceMul, Nat.reduceSub, Nat.reduceLeDiff, Int.reduceNeg, Int.reduceLT, Int.reduceLE, Int.reduceEq, Int.reduceAdd, Int.reduceToNat, c1, c2, get_last]))
  refine in_spec ?_
  by_cases c3 : 1 ≤ hd.range ∧ hd.range ≤ 255
  case neg => ((try simp only [go_sem, ↓reduceIte, reduceCtorEq, Nat.reduceLT, Nat.reduceEqDiff, Nat.reduceBEq, Nat.reduceAdd, Nat.reduceMul, Nat.reduceSub, Nat.reduceLeDiff, Int.reduceNeg, Int.reduceLT, Int.reduceLE, Int.reduceEq, Int.reduceAdd, Int.reduceToNat, c1, c2, c3]); repeat ((first | refine AW.seq ?_ | refine AW.region env_ok ?_ | refine AW.region envR_ok ?_ | refine AW.skip ?_ | refine AW.block ?_ | refine AW.exit ?_ | refine AW.ret ?_ | (refine AW.cond (b := true) ?_ ?_; simp only [ev, upd, ↓reduceIte, Nat.reduceEqDiff]; rw [if_pos rfl]) | (refine AW.cond (b := false) ?_ ?_; simp only [ev, upd, ↓reduceIte, Nat.reduceEqDiff]; rw [if_neg Bool.false_ne_true]) | fail) <;> try simp only [go_sem, ↓reduceIte, reduceCtorEq, Nat.reduceLT, Nat.reduceEqDiff, Nat.reduceBEq, Nat.reduceAdd, Nat.reduceMul, Nat.reduceSub, Nat.reduceLeDiff, Int.reduceNeg, Int.reduceLT, Int.reduceLE, Int.reduceEq, Int.reduceAdd, Int.reduceToNat, c1, c2, c3])); exact .inr (by rw [cut1]; exact hno fun c => c3 c.1.2.2.1)
  ((try simp only [go_sem, ↓reduceIte, reduceCtorEq, Nat.reduceLT, Nat.reduceEqDiff, Nat.reduceBEq, Nat.reduceAdd, Nat.reduceMul, Nat.reduceSub, Nat.reduceLeDiff, Int.reduceNeg, Int.reduceLT, Int.reduceLE, Int.reduceEq, Int.reduceAdd, Int.reduceToNat, c1, c2, c3, get_last]); repeat ((first | refine AW.seq ?_ | refine AW.region env_ok ?_ | refine AW.region envR_ok ?_ | refine AW.skip ?_ | refine AW.block ?_ | refine AW.exit ?_ | refine AW.ret ?_ | (refine AW.cond (b := true) ?_ ?_; simp only [ev, upd, ↓reduceIte, Nat.reduceEqDiff]; rw [if_pos rfl]) | (refine AW.cond (b := false) ?_ ?_; simp only [ev, upd, ↓reduceIte, Nat.reduceEqDiff]; rw [if_neg Bool.false_ne_true]) | fail) <;> try simp only [go_sem, ↓reduceIte, reduceCtorEq, Nat.reduceLT, Nat.reduceEqDiff, Nat.reduceBEq, Nat.reduceAdd, Nat.reduceMul, Nat.reduceSub, Nat.reduceLeDiff, Int.reduceNeg, Int.reduceLT, Int.reduceLE, Int.reduceEq, Int.reduceAdd, Int.reduceToNat, c1, c2, c3, get_last]))
  refine in_spec ?_
  by_cases c4 : 1 ≤ hd.codes ∧ hd.codes ≤ 255
  case neg => ((try simp only [go_sem, ↓reduceIte, reduceCtorEq, Nat.reduceLT, Nat.reduceEqDiff, Nat.reduceBEq, Nat.reduceAdd, Nat.reduceMul, Nat.reduceSub, Nat.reduceLeDiff, Int.reduceNeg, Int.reduceLT, Int.reduceLE, Int.reduceEq, Int.reduceAdd, Int.reduceToNat, c1, c2, c3, c4]); repeat ((first | refine AW.seq ?_ | refine AW.region env_ok ?_ | refine AW.region envR_ok ?_ | refine AW.skip ?_ | refine AW.block ?_ | refine AW.exit ?_ | refine AW.ret ?_ | (refine AW.cond (b := true) ?_ ?_; simp only [ev, upd, ↓reduceIte, Nat.reduceEqDiff]; rw [if_pos rfl]) | (refine AW.cond (b := false) ?_ ?_; simp only [ev, upd, ↓reduceIte, Nat.reduceEqDiff]; rw [if_neg Bool.false_ne_true]) | fail) <;> try simp only [go_sem, ↓reduceIte, reduceCtorEq, Nat.reduceLT, Nat.reduceEqDiff, Nat.reduceBEq, Nat.reduceAdd, Nat.reduceMul, Nat.reduceSub, Nat.reduceLeDiff, Int.reduceNeg, Int.reduceLT, Int.reduceLE, Int.reduceEq, Int.reduceAdd, Int.reduceToNat, c1, c2, c3, c4])); exact .inr (by rw [cut1]; exact hno fun c => c4 c.1.2.2.2.1)
  have ew : IntKind.i64.wrap (hd.codes - 1) = hd.codes - 1 := IntWalk.i64_in _ (by omega)
  by_cases c5 : (hd.lens.length : Int) = hd.codes - 1
  case neg => ((try simp only [go_sem, ↓reduceIte, reduceCtorEq, Nat.reduceLT, Nat.reduceEqDiff, Nat.reduceBEq, Nat.reduceAdd, Nat.reduceMul, Nat.reduceSub, Nat.reduceLeDiff, Int.reduceNeg, Int.reduceLT, Int.reduceLE, Int.reduceEq, Int.reduceAdd, Int.reduceToNat, c1, c2, c3, c4, c5, ew, get_last]); repeat ((first | refine AW.seq ?_ | refine AW.region env_ok ?_ | refine AW.region envR_ok ?_ | refine AW.skip ?_ | refine AW.block ?_ | refine AW.exit ?_ | refine AW.ret ?_ | (refine AW.cond (b := true) ?_ ?_; simp only [ev, upd, ↓reduceIte, Nat.reduceEqDiff]; rw [if_pos rfl]) | (refine AW.cond (b := false) ?_ ?_; simp only [ev, upd, ↓reduceIte, Nat.reduceEqDiff]; rw [if_neg Bool.false_ne_true]) | fail) <;> try simp only [go_sem, ↓reduceIte, reduceCtorEq, Nat.reduceLT, Nat.reduceEqDiff, Nat.reduceBEq, Nat.reduceAdd, Nat.reduceMul, Nat.reduceSub, Nat.reduceLeDiff, Int.reduceNeg, Int.reduceLT, Int.reduceLE, Int.reduceEq, Int.reduceAdd, Int.reduceToNat, c1, c2, c3, c4, c5, ew, get_last])); exact .inr (by rw [cut1]; exact hno fun c => c5 c.1.2.2.2.2.1)
  ((try simp only [go_sem, ↓reduceIte, reduceCtorEq, Nat.reduceLT, Nat.reduceEqDiff, Nat.reduceBEq, Nat.reduceAdd, Nat.reduceMul, Nat.reduceSub, Nat.reduceLeDiff, Int.reduceNeg, Int.reduceLT, Int.reduceLE, Int.reduceEq, Int.reduceAdd, Int.reduceToNat, c1, c2, c3, c4, c5, ew, get_last]); repeat ((first | refine AW.seq ?_ | refine AW.region env_ok ?_ | refine AW.region envR_ok ?_ | refine AW.skip ?_ | refine AW.block ?_ | refine AW.exit ?_ | refine AW.ret ?_ | (refine AW.cond (b := true) ?_ ?_; simp only [ev, upd, ↓reduceIte, Nat.reduceEqDiff]; rw [if_pos rfl]) | (refine AW.cond (b := false) ?_ ?_; simp only [ev, upd, ↓reduceIte, Nat.reduceEqDiff]; rw [if_neg Bool.false_ne_true]) | fail) <;> try simp only [go_sem, ↓reduceIte, reduceCtorEq, Nat.reduceLT, Nat.reduceEqDiff, Nat.reduceBEq, Nat.reduceAdd, Nat.reduceMul, Nat.reduceSub, Nat.reduceLeDiff, Int.reduceNeg, Int.reduceLT, Int.reduceLE, Int.reduceEq, Int.reduceAdd, Int.reduceToNat, c1, c2, c3, c4, c5, ew, get_last]))
  refine in_spec ?_
  by_cases c6 : 1 ≤ (hd.dirs.length : Int) ∧ (hd.dirs.length : Int) ≤ 200
  case neg => ((try simp only [go_sem, ↓reduceIte, reduceCtorEq, Nat.reduceLT, Nat.reduceEqDiff, Nat.reduceBEq, Nat.reduceAdd, Nat.reduceMul, Nat.reduceSub, Nat.reduceLeDiff, Int.reduceNeg, Int.reduceLT, Int.reduceLE, Int.reduceEq, Int.reduceAdd, Int.reduceToNat, c1, c2, c3, c4, c5, c6, get_last]); repeat ((first | refine AW.seq ?_ | refine AW.region env_ok ?_ | refine AW.region envR_ok ?_ | refine AW.skip ?_ | refine AW.block ?_ | refine AW.exit ?_ | refine AW.ret ?_ | (refine AW.cond (b := true) ?_ ?_; simp only [ev, upd, ↓reduceIte, Nat.reduceEqDiff]; rw [if_pos rfl]) | (refine AW.cond (b := false) ?_ ?_; simp only [ev, upd, ↓reduceIte, Nat.reduceEqDiff]; rw [if_neg Bool.false_ne_true]) | fail) <;> try simp only [go_sem, ↓reduceIte, reduceCtorEq, Nat.reduceLT, Nat.reduceEqDiff, Nat.reduceBEq, Nat.reduceAdd, Nat.reduceMul, Nat.reduceSub, Nat.reduceLeDiff, Int.reduceNeg, Int.reduceLT, Int.reduceLE, Int.reduceEq, Int.reduceAdd, Int.reduceToNat, c1, c2, c3, c4, c5, c6, get_last])); exact .inr (by rw [cut1]; exact hno fun c => c6 c.1.2.2.2.2.2.1)
  by_cases c7 : (hd.files.length : Int) > 200
  case pos => ((try simp only [go_sem, ↓reduceIte, reduceCtorEq, Nat.reduceLT, Nat.reduceEqDiff, Nat.reduceBEq, Nat.reduceAdd, Nat.reduceMul, Nat.reduceSub, Nat.reduceLeDiff, Int.reduceNeg, Int.reduceLT, Int.reduceLE, Int.reduceEq, Int.reduceAdd, Int.reduceToNat, c1, c2, c3, c4, c5, c6, c7, get_last]); repeat ((first | refine AW.seq ?_ | refine AW.region env_ok ?_ | refine AW.region envR_ok ?_ | refine AW.skip ?_ | refine AW.block ?_ | refine AW.exit ?_ | refine AW.ret ?_ | (refine AW.cond (b := true) ?_ ?_; simp only [ev, upd, ↓reduceIte, Nat.reduceEqDiff]; rw [if_pos rfl]) | (refine AW.cond (b := false) ?_ ?_; simp only [ev, upd, ↓reduceIte, Nat.reduceEqDiff]; rw [if_neg Bool.false_ne_true]) | fail) <;> try simp only [go_sem, ↓reduceIte, reduceCtorEq, Nat.reduceLT, Nat.reduceEqDiff, Nat.reduceBEq, Nat.reduceAdd, Nat.reduceMul, Nat.reduceSub, Nat.reduceLeDiff, Int.reduceNeg, Int.reduceLT, Int.reduceLE, Int.reduceEq, Int.reduceAdd, Int.reduceToNat, c1, c2, c3, c4, c5, c6, c7, get_last])); exact .inr (by rw [cut1]; exact hno fun c => absurd c.1.2.2.2.2.2.2 (by omega))
  have hnums : hd.nums := ⟨c1, c2, c3, c4, c5, c6, by omega⟩
  ((try simp only [go_sem, ↓reduceIte, reduceCtorEq, Nat.reduceLT, Nat.reduceEqDiff, Nat.reduceBEq, Nat.reduceAdd, Nat.reduceMul, Nat.reduceSub, Nat.reduceLeDiff, Int.reduceNeg, Int.reduceLT, Int.reduceLE, Int.reduceEq, Int.reduceAdd, Int.reduceToNat, c1, c2, c3, c4, c5, c6, c7, get_last]); repeat ((first | refine AW.seq ?_ | refine AW.region env_ok ?_ | refine AW.region envR_ok ?_ | refine AW.skip ?_ | refine AW.block ?_ | refine AW.exit ?_ | refine AW.ret ?_ | (refine AW.cond (b := true) ?_ ?_; simp only [ev, upd, ↓reduceIte, Nat.reduceEqDiff]; rw [if_pos rfl]) | (refine AW.cond (b := false) ?_ ?_; simp only [ev, upd, ↓reduceIte, Nat.reduceEqDiff]; rw [if_neg Bool.false_ne_true]) | fail) <;> try simp only [go_sem, ↓reduceIte, reduceCtorEq, Nat.reduceLT, Nat.reduceEqDiff, Nat.reduceBEq, Nat.reduceAdd, Nat.reduceMul, Nat.reduceSub, Nat.reduceLeDiff, Int.reduceNeg, Int.reduceLT, Int.reduceLE, Int.reduceEq, Int.reduceAdd, Int.reduceToNat, c1, c2, c3, c4, c5, c6, c7, get_last]))
  refine standard_spec ?_
  have g1 : (H ++ [Ob.cells hd.cells] ++ [Ob.cells (iA known)])[H.length]? = some (.cells hd.cells) := by simp
  have g2 : (H ++ [Ob.cells hd.cells] ++ [Ob.cells (iA known)])[(H ++ [Ob.cells hd.cells]).length]? = some (.cells (iA known)) := by simp
  ((try simp only [go_sem, ↓reduceIte, reduceCtorEq, Nat.reduceLT, Nat.reduceEqDiff, Nat.reduceBEq, Nat.reduceAdd, Nat.reduceMul, Nat.reduceSub, Nat.reduceLeDiff, Int.reduceNeg, Int.reduceLT, Int.reduceLE, Int.reduceEq, Int.reduceAdd, Int.reduceToNat, get_last, set_last, show known.length = 12 from rfl, g1, g2]); repeat ((first | refine AW.seq ?_ | refine AW.region env_ok ?_ | refine AW.region envR_ok ?_ | refine AW.skip ?_ | refine AW.block ?_ | refine AW.exit ?_ | refine AW.ret ?_ | (refine AW.cond (b := true) ?_ ?_; simp only [ev, upd, ↓reduceIte, Nat.reduceEqDiff]; rw [if_pos rfl]) | (refine AW.cond (b := false) ?_ ?_; simp only [ev, upd, ↓reduceIte, Nat.reduceEqDiff]; rw [if_neg Bool.false_ne_true]) | fail) <;> try simp only [go_sem, ↓reduceIte, reduceCtorEq, Nat.reduceLT, Nat.reduceEqDiff, Nat.reduceBEq, Nat.reduceAdd, Nat.reduceMul, Nat.reduceSub, Nat.reduceLeDiff, Int.reduceNeg, Int.reduceLT, Int.reduceLE, Int.reduceEq, Int.reduceAdd, Int.reduceToNat, get_last, set_last, show known.length = 12 from rfl, g1, g2]))
  have hcut : (H ++ [Ob.cells hd.cells] ++ [Ob.cells (iA known)]).take H.length = H := cut2 _ _ _
  generalize (H ++ [Ob.cells hd.cells]).length = N1 at g2 ⊢
  generalize H ++ [Ob.cells hd.cells] ++ [Ob.cells (iA known)] = HH at g1 g2 hcut ⊢
  refine AW.loop (fun st => ∃ i : Nat, i ≤ hd.lens.length ∧ st.σ 64 = .int .i64 i ∧ st.σ 63 = .int .i64 hd.lens.length ∧ st.σ 62 = .sl (iA hd.lens) none () ∧ st.σ 3 = .fn (.func 29) [] [] ∧
      st.σ 1 = .ptr (some (H.length, 0)) ∧ st.σ 4 = .ptr (some (N1, 0)) ∧ (∀ j x, j < i → hd.lens[j]? = some x → 0 ≤ x ∧ x ≤ 255 ∧ (j < 12 → x = known.getD j 0)) ∧ st.H = HH)
    (fun st => match st.σ 64 with | .int _ i => hd.lens.length - i.toNat | _ => 0) ⟨0, by omega, rfl, ?_, rfl, rfl, rfl, rfl, by omega, rfl⟩ ?_
  · rfl
  rintro ⟨σ, H2⟩ ⟨i, hi', h64, h63, h62, h3, h1, h4, hz, rfl⟩
  simp only at h64 h63 h62 h3 h1 h4
  ((try simp only [go_sem, ↓reduceIte, reduceCtorEq, Nat.reduceLT, Nat.reduceEqDiff, Nat.reduceBEq, Nat.reduceAdd, Nat.reduceMul, Nat.reduceSub, Nat.reduceLeDiff, Int.reduceNeg, Int.reduceLT, Int.reduceLE, Int.reduceEq, Int.reduceAdd, Int.reduceToNat, h64, h63]); repeat ((first | refine AW.seq ?_ | refine AW.region env_ok ?_ | refine AW.region envR_ok ?_ | refine AW.skip ?_ | refine AW.block ?_ | refine AW.exit ?_ | refine AW.ret ?_ | (refine AW.cond (b := true) ?_ ?_; simp only [ev, upd, ↓reduceIte, Nat.reduceEqDiff]; rw [if_pos rfl]) | (refine AW.cond (b := false) ?_ ?_; simp only [ev, upd, ↓reduceIte, Nat.reduceEqDiff]; rw [if_neg Bool.false_ne_true]) | fail) <;> try simp only [go_sem, ↓reduceIte, reduceCtorEq, Nat.reduceLT, Nat.reduceEqDiff, Nat.reduceBEq, Nat.reduceAdd, Nat.reduceMul, Nat.reduceSub, Nat.reduceLeDiff, Int.reduceNeg, Int.reduceLT, Int.reduceLE, Int.reduceEq, Int.reduceAdd, Int.reduceToNat, h64, h63]))
  (refine AW.cond rfl ?_; (try simp only [Bool.not_eq_true', decide_eq_false_iff_not, decide_eq_true_eq, Bool.false_eq_true, Bool.and_eq_true, Bool.or_eq_true, if_true, if_false]); split <;> rename_i e)
  · have hlt : i < hd.lens.length := by omega
    have hb : (0 : Int) ≤ i ∧ (i : Int) < hd.lens.length := by omega
    ((try simp only [go_sem, ↓reduceIte, reduceCtorEq, Nat.reduceLT, Nat.reduceEqDiff, Nat.reduceBEq, Nat.reduceAdd, Nat.reduceMul, Nat.reduceSub, Nat.reduceLeDiff, Int.reduceNeg, Int.reduceLT, Int.reduceLE, Int.reduceEq, Int.reduceAdd, Int.reduceToNat, h64, h63, h62, h3, hb, iA_at _ i _ hlt]); repeat ((first | refine AW.seq ?_ | refine AW.region env_ok ?_ | refine AW.region envR_ok ?_ | refine AW.skip ?_ | refine AW.block ?_ | refine AW.exit ?_ | refine AW.ret ?_ | (refine AW.cond (b := true) ?_ ?_; simp only [ev, upd, ↓reduceIte, Nat.reduceEqDiff]; rw [if_pos rfl]) | (refine AW.cond (b := false) ?_ ?_; simp only [ev, upd, ↓reduceIte, Nat.reduceEqDiff]; rw [if_neg Bool.false_ne_true]) | fail) <;> try simp only [go_sem, ↓reduceIte, reduceCtorEq, Nat.reduceLT, Nat.reduceEqDiff, Nat.reduceBEq, Nat.reduceAdd, Nat.reduceMul, Nat.reduceSub, Nat.reduceLeDiff, Int.reduceNeg, Int.reduceLT, Int.reduceLE, Int.reduceEq, Int.reduceAdd, Int.reduceToNat, h64, h63, h62, h3, hb, iA_at _ i _ hlt]))
    refine in_spec ?_
    by_cases d1 : 0 ≤ hd.lens[i] ∧ hd.lens[i] ≤ 255
    case neg =>
      ((try simp only [go_sem, ↓reduceIte, reduceCtorEq, Nat.reduceLT, Nat.reduceEqDiff, Nat.reduceBEq, Nat.reduceAdd, Nat.reduceMul, Nat.reduceSub, Nat.reduceLeDiff, Int.reduceNeg, Int.reduceLT, Int.reduceLE, Int.reduceEq, Int.reduceAdd, Int.reduceToNat, d1]); repeat ((first | refine AW.seq ?_ | refine AW.region env_ok ?_ | refine AW.region envR_ok ?_ | refine AW.skip ?_ | refine AW.block ?_ | refine AW.exit ?_ | refine AW.ret ?_ | (refine AW.cond (b := true) ?_ ?_; simp only [ev, upd, ↓reduceIte, Nat.reduceEqDiff]; rw [if_pos rfl]) | (refine AW.cond (b := false) ?_ ?_; simp only [ev, upd, ↓reduceIte, Nat.reduceEqDiff]; rw [if_neg Bool.false_ne_true]) | fail) <;> try simp only [go_sem, ↓reduceIte, reduceCtorEq, Nat.reduceLT, Nat.reduceEqDiff, Nat.reduceBEq, Nat.reduceAdd, Nat.reduceMul, Nat.reduceSub, Nat.reduceLeDiff, Int.reduceNeg, Int.reduceLT, Int.reduceLE, Int.reduceEq, Int.reduceAdd, Int.reduceToNat, d1]))
      refine .inr ?_
      rw [hcut]
      exact hno fun c => d1 ⟨(c.2.1 i _ (List.getElem?_eq_getElem hlt)).1, (c.2.1 i _ (List.getElem?_eq_getElem hlt)).2.1⟩
    have ew2 : IntKind.i64.wrap ((i : Int) + 1) = ((i + 1 : Nat) : Int) := IntWalk.i64_in _ (by omega)
    have hz2 : (i < 12 → hd.lens[i] = known.getD i 0) → ∀ (j : Nat) (x : Int), j < i + 1 → hd.lens[j]? = some x → 0 ≤ x ∧ x ≤ 255 ∧ (j < 12 → x = known.getD j 0) := by
      intro hk j x hj hx
      by_cases c : j = i
      · subst c
        rw [List.getElem?_eq_getElem hlt] at hx
        cases hx
        exact ⟨d1.1, d1.2, hk⟩
      · exact hz j x (by omega) hx
    by_cases d2 : (i : Int) < 12
    · have hk : (iA known)[i]? = some (.int .i64 (known.getD i 0)) := by
        have : i < known.length := by rw [show known.length = 12 from rfl]; omega
        simp [iA, this]
      have hb2 : (0 : Int) ≤ i ∧ (i : Int) < 12 := by omega
      by_cases d3 : hd.lens[i] = known.getD i 0
      · have d1' := d1
        rw [d3] at d1'
        ((try simp only [go_sem, ↓reduceIte, reduceCtorEq, Nat.reduceLT, Nat.reduceEqDiff, Nat.reduceBEq, Nat.reduceAdd, Nat.reduceMul, Nat.reduceSub, Nat.reduceLeDiff, Int.reduceNeg, Int.reduceLT, Int.reduceLE, Int.reduceEq, Int.reduceAdd, Int.reduceToNat, d1', d2, h4, h64, h63, h62, h3, hb2, g2, hk, d3, ew2]); repeat ((first | refine AW.seq ?_ | refine AW.region env_ok ?_ | refine AW.region envR_ok ?_ | refine AW.skip ?_ | refine AW.block ?_ | refine AW.exit ?_ | refine AW.ret ?_ | (refine AW.cond (b := true) ?_ ?_; simp only [ev, upd, ↓reduceIte, Nat.reduceEqDiff]; rw [if_pos rfl]) | (refine AW.cond (b := false) ?_ ?_; simp only [ev, upd, ↓reduceIte, Nat.reduceEqDiff]; rw [if_neg Bool.false_ne_true]) | fail) <;> try simp only [go_sem, ↓reduceIte, reduceCtorEq, Nat.reduceLT, Nat.reduceEqDiff, Nat.reduceBEq, Nat.reduceAdd, Nat.reduceMul, Nat.reduceSub, Nat.reduceLeDiff, Int.reduceNeg, Int.reduceLT, Int.reduceLE, Int.reduceEq, Int.reduceAdd, Int.reduceToNat, d1', d2, h4, h64, h63, h62, h3, hb2, g2, hk, d3, ew2]))
        exact ⟨⟨i + 1, by omega, rfl, h1, hz2 fun _ => d3⟩, by omega⟩
      · ((try simp only [go_sem, ↓reduceIte, reduceCtorEq, Nat.reduceLT, Nat.reduceEqDiff, Nat.reduceBEq, Nat.reduceAdd, Nat.reduceMul, Nat.reduceSub, Nat.reduceLeDiff, Int.reduceNeg, Int.reduceLT, Int.reduceLE, Int.reduceEq, Int.reduceAdd, Int.reduceToNat, d1, d2, h4, h64, h63, h62, h3, hb2, g2, hk, d3]); repeat ((first | refine AW.seq ?_ | refine AW.region env_ok ?_ | refine AW.region envR_ok ?_ | refine AW.skip ?_ | refine AW.block ?_ | refine AW.exit ?_ | refine AW.ret ?_ | (refine AW.cond (b := true) ?_ ?_; simp only [ev, upd, ↓reduceIte, Nat.reduceEqDiff]; rw [if_pos rfl]) | (refine AW.cond (b := false) ?_ ?_; simp only [ev, upd, ↓reduceIte, Nat.reduceEqDiff]; rw [if_neg Bool.false_ne_true]) | fail) <;> try simp only [go_sem, ↓reduceIte, reduceCtorEq, Nat.reduceLT, Nat.reduceEqDiff, Nat.reduceBEq, Nat.reduceAdd, Nat.reduceMul, Nat.reduceSub, Nat.reduceLeDiff, Int.reduceNeg, Int.reduceLT, Int.reduceLE, Int.reduceEq, Int.reduceAdd, Int.reduceToNat, d1, d2, h4, h64, h63, h62, h3, hb2, g2, hk, d3]))
        refine .inr ?_
        rw [hcut]
        exact hno fun c => d3 ((c.2.1 i _ (List.getElem?_eq_getElem hlt)).2.2 (by omega))
    · ((try simp only [go_sem, ↓reduceIte, reduceCtorEq, Nat.reduceLT, Nat.reduceEqDiff, Nat.reduceBEq, Nat.reduceAdd, Nat.reduceMul, Nat.reduceSub, Nat.reduceLeDiff, Int.reduceNeg, Int.reduceLT, Int.reduceLE, Int.reduceEq, Int.reduceAdd, Int.reduceToNat, d1, d2, h4, h64, h63, h62, h3, ew2]); repeat ((first | refine AW.seq ?_ | refine AW.region env_ok ?_ | refine AW.region envR_ok ?_ | refine AW.skip ?_ | refine AW.block ?_ | refine AW.exit ?_ | refine AW.ret ?_ | (refine AW.cond (b := true) ?_ ?_; simp only [ev, upd, ↓reduceIte, Nat.reduceEqDiff]; rw [if_pos rfl]) | (refine AW.cond (b := false) ?_ ?_; simp only [ev, upd, ↓reduceIte, Nat.reduceEqDiff]; rw [if_neg Bool.false_ne_true]) | fail) <;> try simp only [go_sem, ↓reduceIte, reduceCtorEq, Nat.reduceLT, Nat.reduceEqDiff, Nat.reduceBEq, Nat.reduceAdd, Nat.reduceMul, Nat.reduceSub, Nat.reduceLeDiff, Int.reduceNeg, Int.reduceLT, Int.reduceLE, Int.reduceEq, Int.reduceAdd, Int.reduceToNat, d1, d2, h4, h64, h63, h62, h3, ew2]))
      exact ⟨⟨i + 1, by omega, rfl, h1, hz2 fun c => absurd c (by omega)⟩, by omega⟩
  · have hlens : hd.lensOk := fun j x hx => hz j x (by have := (List.getElem?_eq_some_iff.1 hx).1; omega) hx
    ((try simp only [go_sem, ↓reduceIte, reduceCtorEq, Nat.reduceLT, Nat.reduceEqDiff, Nat.reduceBEq, Nat.reduceAdd, Nat.reduceMul, Nat.reduceSub, Nat.reduceLeDiff, Int.reduceNeg, Int.reduceLT, Int.reduceLE, Int.reduceEq, Int.reduceAdd, Int.reduceToNat, h1, g1]); repeat ((first | refine AW.seq ?_ | refine AW.region env_ok ?_ | refine AW.region envR_ok ?_ | refine AW.skip ?_ | refine AW.block ?_ | refine AW.exit ?_ | refine AW.ret ?_ | (refine AW.cond (b := true) ?_ ?_; simp only [ev, upd, ↓reduceIte, Nat.reduceEqDiff]; rw [if_pos rfl]) | (refine AW.cond (b := false) ?_ ?_; simp only [ev, upd, ↓reduceIte, Nat.reduceEqDiff]; rw [if_neg Bool.false_ne_true]) | fail) <;> try simp only [go_sem, ↓reduceIte, reduceCtorEq, Nat.reduceLT, Nat.reduceEqDiff, Nat.reduceBEq, Nat.reduceAdd, Nat.reduceMul, Nat.reduceSub, Nat.reduceLeDiff, Int.reduceNeg, Int.reduceLT, Int.reduceLE, Int.reduceEq, Int.reduceAdd, Int.reduceToNat, h1, g1]))
    refine AW.loop (fun st => ∃ i : Nat, i ≤ hd.dirs.length ∧ st.σ 88 = .int .i64 i ∧ st.σ 87 = .int .i64 hd.dirs.length ∧ st.σ 86 = .sl (tA hd.dirs) none () ∧ st.σ 3 = .fn (.func 29) [] [] ∧
        st.σ 1 = .ptr (some (H.length, 0)) ∧ (∀ d ∈ hd.dirs.take i, textOk d = true) ∧ st.H = H2)
      (fun st => match st.σ 88 with | .int _ i => hd.dirs.length - i.toNat | _ => 0) ⟨0, by omega, rfl, rfl, rfl, h3, h1, by simp, rfl⟩ ?_
    rintro ⟨σ, H3⟩ ⟨i, hi', h88, h87, h86, h3, h1, hz, rfl⟩
    simp only at h88 h87 h86 h3 h1
    ((try simp only [go_sem, ↓reduceIte, reduceCtorEq, Nat.reduceLT, Nat.reduceEqDiff, Nat.reduceBEq, Nat.reduceAdd, Nat.reduceMul, Nat.reduceSub, Nat.reduceLeDiff, Int.reduceNeg, Int.reduceLT, Int.reduceLE, Int.reduceEq, Int.reduceAdd, Int.reduceToNat, h88, h87]); repeat ((first | refine AW.seq ?_ | refine AW.region env_ok ?_ | refine AW.region envR_ok ?_ | refine AW.skip ?_ | refine AW.block ?_ | refine AW.exit ?_ | refine AW.ret ?_ | (refine AW.cond (b := true) ?_ ?_; simp only [ev, upd, ↓reduceIte, Nat.reduceEqDiff]; rw [if_pos rfl]) | (refine AW.cond (b := false) ?_ ?_; simp only [ev, upd, ↓reduceIte, Nat.reduceEqDiff]; rw [if_neg Bool.false_ne_true]) | fail) <;> try simp only [go_sem, ↓reduceIte, reduceCtorEq, Nat.reduceLT, Nat.reduceEqDiff, Nat.reduceBEq, Nat.reduceAdd, Nat.reduceMul, Nat.reduceSub, Nat.reduceLeDiff, Int.reduceNeg, Int.reduceLT, Int.reduceLE, Int.reduceEq, Int.reduceAdd, Int.reduceToNat, h88, h87]))
    (refine AW.cond rfl ?_; (try simp only [Bool.not_eq_true', decide_eq_false_iff_not, decide_eq_true_eq, Bool.false_eq_true, Bool.and_eq_true, Bool.or_eq_true, if_true, if_false]); split <;> rename_i e)
    · have hlt : i < hd.dirs.length := by omega
      have hb : (0 : Int) ≤ i ∧ (i : Int) < hd.dirs.length := by omega
      have ew2 : IntKind.i64.wrap ((i : Int) + 1) = ((i + 1 : Nat) : Int) := IntWalk.i64_in _ (by omega)
      ((try simp only [go_sem, ↓reduceIte, reduceCtorEq, Nat.reduceLT, Nat.reduceEqDiff, Nat.reduceBEq, Nat.reduceAdd, Nat.reduceMul, Nat.reduceSub, Nat.reduceLeDiff, Int.reduceNeg, Int.reduceLT, Int.reduceLE, Int.reduceEq, Int.reduceAdd, Int.reduceToNat, h88, h87, h86, hb, tA_at _ i _ hlt]); repeat ((first | refine AW.seq ?_ | refine AW.region env_ok ?_ | refine AW.region envR_ok ?_ | refine AW.skip ?_ | refine AW.block ?_ | refine AW.exit ?_ | refine AW.ret ?_ | (refine AW.cond (b := true) ?_ ?_; simp only [ev, upd, ↓reduceIte, Nat.reduceEqDiff]; rw [if_pos rfl]) | (refine AW.cond (b := false) ?_ ?_; simp only [ev, upd, ↓reduceIte, Nat.reduceEqDiff]; rw [if_neg Bool.false_ne_true]) | fail) <;> try simp only [go_sem, ↓reduceIte, reduceCtorEq, Nat.reduceLT, Nat.reduceEqDiff, Nat.reduceBEq, Nat.reduceAdd, Nat.reduceMul, Nat.reduceSub, Nat.reduceLeDiff, Int.reduceNeg, Int.reduceLT, Int.reduceLE, Int.reduceEq, Int.reduceAdd, Int.reduceToNat, h88, h87, h86, hb, tA_at _ i _ hlt]))
      refine cstrRight_spec ?_
      cases ht : textOk hd.dirs[i] with
      | false =>
        ((try simp only [go_sem, ↓reduceIte, reduceCtorEq, Nat.reduceLT, Nat.reduceEqDiff, Nat.reduceBEq, Nat.reduceAdd, Nat.reduceMul, Nat.reduceSub, Nat.reduceLeDiff, Int.reduceNeg, Int.reduceLT, Int.reduceLE, Int.reduceEq, Int.reduceAdd, Int.reduceToNat]); repeat ((first | refine AW.seq ?_ | refine AW.region env_ok ?_ | refine AW.region envR_ok ?_ | refine AW.skip ?_ | refine AW.block ?_ | refine AW.exit ?_ | refine AW.ret ?_ | (refine AW.cond (b := true) ?_ ?_; simp only [ev, upd, ↓reduceIte, Nat.reduceEqDiff]; rw [if_pos rfl]) | (refine AW.cond (b := false) ?_ ?_; simp only [ev, upd, ↓reduceIte, Nat.reduceEqDiff]; rw [if_neg Bool.false_ne_true]) | fail) <;> try simp only [go_sem, ↓reduceIte, reduceCtorEq, Nat.reduceLT, Nat.reduceEqDiff, Nat.reduceBEq, Nat.reduceAdd, Nat.reduceMul, Nat.reduceSub, Nat.reduceLeDiff, Int.reduceNeg, Int.reduceLT, Int.reduceLE, Int.reduceEq, Int.reduceAdd, Int.reduceToNat]))
        refine .inr ?_
        rw [hcut]
        exact hno fun c => by have := c.2.2.1 _ (List.getElem_mem hlt); rw [ht] at this; cases this
      | true =>
        ((try simp only [go_sem, ↓reduceIte, reduceCtorEq, Nat.reduceLT, Nat.reduceEqDiff, Nat.reduceBEq, Nat.reduceAdd, Nat.reduceMul, Nat.reduceSub, Nat.reduceLeDiff, Int.reduceNeg, Int.reduceLT, Int.reduceLE, Int.reduceEq, Int.reduceAdd, Int.reduceToNat, h88, ew2]); repeat ((first | refine AW.seq ?_ | refine AW.region env_ok ?_ | refine AW.region envR_ok ?_ | refine AW.skip ?_ | refine AW.block ?_ | refine AW.exit ?_ | refine AW.ret ?_ | (refine AW.cond (b := true) ?_ ?_; simp only [ev, upd, ↓reduceIte, Nat.reduceEqDiff]; rw [if_pos rfl]) | (refine AW.cond (b := false) ?_ ?_; simp only [ev, upd, ↓reduceIte, Nat.reduceEqDiff]; rw [if_neg Bool.false_ne_true]) | fail) <;> try simp only [go_sem, ↓reduceIte, reduceCtorEq, Nat.reduceLT, Nat.reduceEqDiff, Nat.reduceBEq, Nat.reduceAdd, Nat.reduceMul, Nat.reduceSub, Nat.reduceLeDiff, Int.reduceNeg, Int.reduceLT, Int.reduceLE, Int.reduceEq, Int.reduceAdd, Int.reduceToNat, h88, ew2]))
        refine ⟨⟨i + 1, by omega, rfl, h87, h86, h3, h1, ?_⟩, by omega⟩
        intro d hd'
        rw [List.take_succ_eq_append_getElem hlt] at hd'
        rcases List.mem_append.1 hd' with hd' | hd'
        · exact hz d hd'
        · rw [List.mem_singleton.1 hd']; exact ht
    · have hdirs : hd.dirsOk := fun d hd' => hz d (by rw [List.take_of_length_le (by omega)]; exact hd')
      ((try simp only [go_sem, ↓reduceIte, reduceCtorEq, Nat.reduceLT, Nat.reduceEqDiff, Nat.reduceBEq, Nat.reduceAdd, Nat.reduceMul, Nat.reduceSub, Nat.reduceLeDiff, Int.reduceNeg, Int.reduceLT, Int.reduceLE, Int.reduceEq, Int.reduceAdd, Int.reduceToNat, h1, g1]); repeat ((first | refine AW.seq ?_ | refine AW.region env_ok ?_ | refine AW.region envR_ok ?_ | refine AW.skip ?_ | refine AW.block ?_ | refine AW.exit ?_ | refine AW.ret ?_ | (refine AW.cond (b := true) ?_ ?_; simp only [ev, upd, ↓reduceIte, Nat.reduceEqDiff]; rw [if_pos rfl]) | (refine AW.cond (b := false) ?_ ?_; simp only [ev, upd, ↓reduceIte, Nat.reduceEqDiff]; rw [if_neg Bool.false_ne_true]) | fail) <;> try simp only [go_sem, ↓reduceIte, reduceCtorEq, Nat.reduceLT, Nat.reduceEqDiff, Nat.reduceBEq, Nat.reduceAdd, Nat.reduceMul, Nat.reduceSub, Nat.reduceLeDiff, Int.reduceNeg, Int.reduceLT, Int.reduceLE, Int.reduceEq, Int.reduceAdd, Int.reduceToNat, h1, g1]))
      refine AW.loop (fun st => ∃ i : Nat, i ≤ hd.files.length ∧ st.σ 99 = .int .i64 i ∧ st.σ 98 = .int .i64 hd.files.length ∧ st.σ 97 = .sl (fA hd.files) none () ∧ st.σ 3 = .fn (.func 29) [] [] ∧
          st.σ 1 = .ptr (some (H.length, 0)) ∧ (∀ f ∈ hd.files.take i, textOk f.1 = true ∧ 0 ≤ f.2 ∧ f.2 ≤ (hd.dirs.length : Int) - 1) ∧ st.H.take H.length = H ∧ st.H[H.length]? = some (.cells hd.cells))
        (fun st => match st.σ 99 with | .int _ i => hd.files.length - i.toNat | _ => 0) ⟨0, by omega, rfl, rfl, rfl, h3, h1, by simp, hcut, g1⟩ ?_
      rintro ⟨σ, H4⟩ ⟨i, hi', h99, h98, h97, h3, h1, hz, hcut, g1⟩
      simp only at h99 h98 h97 h3 h1 hcut g1
      have hl4 : H.length < H4.length := lt_of_get g1
      ((try simp only [go_sem, ↓reduceIte, reduceCtorEq, Nat.reduceLT, Nat.reduceEqDiff, Nat.reduceBEq, Nat.reduceAdd, Nat.reduceMul, Nat.reduceSub, Nat.reduceLeDiff, Int.reduceNeg, Int.reduceLT, Int.reduceLE, Int.reduceEq, Int.reduceAdd, Int.reduceToNat, h99, h98]); repeat ((first | refine AW.seq ?_ | refine AW.region env_ok ?_ | refine AW.region envR_ok ?_ | refine AW.skip ?_ | refine AW.block ?_ | refine AW.exit ?_ | refine AW.ret ?_ | (refine AW.cond (b := true) ?_ ?_; simp only [ev, upd, ↓reduceIte, Nat.reduceEqDiff]; rw [if_pos rfl]) | (refine AW.cond (b := false) ?_ ?_; simp only [ev, upd, ↓reduceIte, Nat.reduceEqDiff]; rw [if_neg Bool.false_ne_true]) | fail) <;> try simp only [go_sem, ↓reduceIte, reduceCtorEq, Nat.reduceLT, Nat.reduceEqDiff, Nat.reduceBEq, Nat.reduceAdd, Nat.reduceMul, Nat.reduceSub, Nat.reduceLeDiff, Int.reduceNeg, Int.reduceLT, Int.reduceLE, Int.reduceEq, Int.reduceAdd, Int.reduceToNat, h99, h98]))
      (refine AW.cond rfl ?_; (try simp only [Bool.not_eq_true', decide_eq_false_iff_not, decide_eq_true_eq, Bool.false_eq_true, Bool.and_eq_true, Bool.or_eq_true, if_true, if_false]); split <;> rename_i e)
      · have hlt : i < hd.files.length := by omega
        have hb : (0 : Int) ≤ i ∧ (i : Int) < hd.files.length := by omega
        have ew2 : IntKind.i64.wrap ((i : Int) + 1) = ((i + 1 : Nat) : Int) := IntWalk.i64_in _ (by omega)
        have ew3 : IntKind.i64.wrap ((hd.dirs.length : Int) - 1) = (hd.dirs.length : Int) - 1 := IntWalk.i64_in _ (by omega)
        ((try simp only [go_sem, ↓reduceIte, reduceCtorEq, Nat.reduceLT, Nat.reduceEqDiff, Nat.reduceBEq, Nat.reduceAdd, Nat.reduceMul, Nat.reduceSub, Nat.reduceLeDiff, Int.reduceNeg, Int.reduceLT, Int.reduceLE, Int.reduceEq, Int.reduceAdd, Int.reduceToNat, h99, h98, h97, hb, fA_at _ i _ hlt, get_last, set_last]); repeat ((first | refine AW.seq ?_ | refine AW.region env_ok ?_ | refine AW.region envR_ok ?_ | refine AW.skip ?_ | refine AW.block ?_ | refine AW.exit ?_ | refine AW.ret ?_ | (refine AW.cond (b := true) ?_ ?_; simp only [ev, upd, ↓reduceIte, Nat.reduceEqDiff]; rw [if_pos rfl]) | (refine AW.cond (b := false) ?_ ?_; simp only [ev, upd, ↓reduceIte, Nat.reduceEqDiff]; rw [if_neg Bool.false_ne_true]) | fail) <;> try simp only [go_sem, ↓reduceIte, reduceCtorEq, Nat.reduceLT, Nat.reduceEqDiff, Nat.reduceBEq, Nat.reduceAdd, Nat.reduceMul, Nat.reduceSub, Nat.reduceLeDiff, Int.reduceNeg, Int.reduceLT, Int.reduceLE, Int.reduceEq, Int.reduceAdd, Int.reduceToNat, h99, h98, h97, hb, fA_at _ i _ hlt, get_last, set_last]))
        refine cstrRight_spec ?_
        have hcut5 : (H4 ++ [Ob.cells [V.str hd.files[i].1, V.int .i64 hd.files[i].2]]).take H.length = H := by
          rw [List.take_append_of_le_length (by omega)]; exact hcut
        have g5 : (H4 ++ [Ob.cells [V.str hd.files[i].1, V.int .i64 hd.files[i].2]])[H.length]? = some (.cells hd.cells) := by
          rw [List.getElem?_append_left hl4]; exact g1
        cases ht : textOk hd.files[i].1 with
        | false =>
          ((try simp only [go_sem, ↓reduceIte, reduceCtorEq, Nat.reduceLT, Nat.reduceEqDiff, Nat.reduceBEq, Nat.reduceAdd, Nat.reduceMul, Nat.reduceSub, Nat.reduceLeDiff, Int.reduceNeg, Int.reduceLT, Int.reduceLE, Int.reduceEq, Int.reduceAdd, Int.reduceToNat]); repeat ((first | refine AW.seq ?_ | refine AW.region env_ok ?_ | refine AW.region envR_ok ?_ | refine AW.skip ?_ | refine AW.block ?_ | refine AW.exit ?_ | refine AW.ret ?_ | (refine AW.cond (b := true) ?_ ?_; simp only [ev, upd, ↓reduceIte, Nat.reduceEqDiff]; rw [if_pos rfl]) | (refine AW.cond (b := false) ?_ ?_; simp only [ev, upd, ↓reduceIte, Nat.reduceEqDiff]; rw [if_neg Bool.false_ne_true]) | fail) <;> try simp only [go_sem, ↓reduceIte, reduceCtorEq, Nat.reduceLT, Nat.reduceEqDiff, Nat.reduceBEq, Nat.reduceAdd, Nat.reduceMul, Nat.reduceSub, Nat.reduceLeDiff, Int.reduceNeg, Int.reduceLT, Int.reduceLE, Int.reduceEq, Int.reduceAdd, Int.reduceToNat]))
          refine .inr ?_
          rw [hcut5]
          exact hno fun c => by have := (c.2.2.2 _ (List.getElem_mem hlt)).1; rw [ht] at this; cases this
        | true =>
          ((try simp only [go_sem, ↓reduceIte, reduceCtorEq, Nat.reduceLT, Nat.reduceEqDiff, Nat.reduceBEq, Nat.reduceAdd, Nat.reduceMul, Nat.reduceSub, Nat.reduceLeDiff, Int.reduceNeg, Int.reduceLT, Int.reduceLE, Int.reduceEq, Int.reduceAdd, Int.reduceToNat, h3, h1, get_last, g5, ew3]); repeat ((first | refine AW.seq ?_ | refine AW.region env_ok ?_ | refine AW.region envR_ok ?_ | refine AW.skip ?_ | refine AW.block ?_ | refine AW.exit ?_ | refine AW.ret ?_ | (refine AW.cond (b := true) ?_ ?_; simp only [ev, upd, ↓reduceIte, Nat.reduceEqDiff]; rw [if_pos rfl]) | (refine AW.cond (b := false) ?_ ?_; simp only [ev, upd, ↓reduceIte, Nat.reduceEqDiff]; rw [if_neg Bool.false_ne_true]) | fail) <;> try simp only [go_sem, ↓reduceIte, reduceCtorEq, Nat.reduceLT, Nat.reduceEqDiff, Nat.reduceBEq, Nat.reduceAdd, Nat.reduceMul, Nat.reduceSub, Nat.reduceLeDiff, Int.reduceNeg, Int.reduceLT, Int.reduceLE, Int.reduceEq, Int.reduceAdd, Int.reduceToNat, h3, h1, get_last, g5, ew3]))
          refine in_spec ?_
          by_cases d1 : 0 ≤ hd.files[i].2 ∧ hd.files[i].2 ≤ (hd.dirs.length : Int) - 1
          · ((try simp only [go_sem, ↓reduceIte, reduceCtorEq, Nat.reduceLT, Nat.reduceEqDiff, Nat.reduceBEq, Nat.reduceAdd, Nat.reduceMul, Nat.reduceSub, Nat.reduceLeDiff, Int.reduceNeg, Int.reduceLT, Int.reduceLE, Int.reduceEq, Int.reduceAdd, Int.reduceToNat, d1, h99, ew2]); repeat ((first | refine AW.seq ?_ | refine AW.region env_ok ?_ | refine AW.region envR_ok ?_ | refine AW.skip ?_ | refine AW.block ?_ | refine AW.exit ?_ | refine AW.ret ?_ | (refine AW.cond (b := true) ?_ ?_; simp only [ev, upd, ↓reduceIte, Nat.reduceEqDiff]; rw [if_pos rfl]) | (refine AW.cond (b := false) ?_ ?_; simp only [ev, upd, ↓reduceIte, Nat.reduceEqDiff]; rw [if_neg Bool.false_ne_true]) | fail) <;> try simp only [go_sem, ↓reduceIte, reduceCtorEq, Nat.reduceLT, Nat.reduceEqDiff, Nat.reduceBEq, Nat.reduceAdd, Nat.reduceMul, Nat.reduceSub, Nat.reduceLeDiff, Int.reduceNeg, Int.reduceLT, Int.reduceLE, Int.reduceEq, Int.reduceAdd, Int.reduceToNat, d1, h99, ew2]))
            refine ⟨⟨i + 1, by omega, rfl, h98, h97, h3, h1, ?_, hcut5, g5⟩, by omega⟩
            intro f hf
            rw [List.take_succ_eq_append_getElem hlt] at hf
            rcases List.mem_append.1 hf with hf | hf
            · exact hz f hf
            · rw [List.mem_singleton.1 hf]; exact ⟨ht, d1⟩
          · ((try simp only [go_sem, ↓reduceIte, reduceCtorEq, Nat.reduceLT, Nat.reduceEqDiff, Nat.reduceBEq, Nat.reduceAdd, Nat.reduceMul, Nat.reduceSub, Nat.reduceLeDiff, Int.reduceNeg, Int.reduceLT, Int.reduceLE, Int.reduceEq, Int.reduceAdd, Int.reduceToNat, d1]); repeat ((first | refine AW.seq ?_ | refine AW.region env_ok ?_ | refine AW.region envR_ok ?_ | refine AW.skip ?_ | refine AW.block ?_ | refine AW.exit ?_ | refine AW.ret ?_ | (refine AW.cond (b := true) ?_ ?_; simp only [ev, upd, ↓reduceIte, Nat.reduceEqDiff]; rw [if_pos rfl]) | (refine AW.cond (b := false) ?_ ?_; simp only [ev, upd, ↓reduceIte, Nat.reduceEqDiff]; rw [if_neg Bool.false_ne_true]) | fail) <;> try simp only [go_sem, ↓reduceIte, reduceCtorEq, Nat.reduceLT, Nat.reduceEqDiff, Nat.reduceBEq, Nat.reduceAdd, Nat.reduceMul, Nat.reduceSub, Nat.reduceLeDiff, Int.reduceNeg, Int.reduceLT, Int.reduceLE, Int.reduceEq, Int.reduceAdd, Int.reduceToNat, d1]))
            refine .inr ?_
            rw [hcut5]
            exact hno fun c => d1 (c.2.2.2 _ (List.getElem_mem hlt)).2
      · ((try simp only [go_sem, ↓reduceIte, reduceCtorEq, Nat.reduceLT, Nat.reduceEqDiff, Nat.reduceBEq, Nat.reduceAdd, Nat.reduceMul, Nat.reduceSub, Nat.reduceLeDiff, Int.reduceNeg, Int.reduceLT, Int.reduceLE, Int.reduceEq, Int.reduceAdd, Int.reduceToNat]); repeat ((first | refine AW.seq ?_ | refine AW.region env_ok ?_ | refine AW.region envR_ok ?_ | refine AW.skip ?_ | refine AW.block ?_ | refine AW.exit ?_ | refine AW.ret ?_ | (refine AW.cond (b := true) ?_ ?_; simp only [ev, upd, ↓reduceIte, Nat.reduceEqDiff]; rw [if_pos rfl]) | (refine AW.cond (b := false) ?_ ?_; simp only [ev, upd, ↓reduceIte, Nat.reduceEqDiff]; rw [if_neg Bool.false_ne_true]) | fail) <;> try simp only [go_sem, ↓reduceIte, reduceCtorEq, Nat.reduceLT, Nat.reduceEqDiff, Nat.reduceBEq, Nat.reduceAdd, Nat.reduceMul, Nat.reduceSub, Nat.reduceLeDiff, Int.reduceNeg, Int.reduceLT, Int.reduceLE, Int.reduceEq, Int.reduceAdd, Int.reduceToNat]))
        refine .inr ?_
        rw [hcut]
        rw [decide_eq_true (show hd.Right from ⟨hnums, hlens, hdirs, fun f hf => hz f (by rw [List.take_of_length_le (by omega)]; exact hf)⟩)] at h
        exact h
end
end Go.Ab
end

section
/- Package sindriref21: headers that may be. -/
namespace Go.Ab
open V Go.Proofs
set_option maxHeartbeats 4000000
set_option maxRecDepth 10000
set_option linter.unusedSimpArgs false
set_option linter.unusedVariables false
section
variable {hd : HD} {H : Heap} {Q : A → Heap → Prop}

open Classical in
theorem rHead_spec (hi : hd.In) (h : Q (.bool (decide hd.Right)) H) : AC Try.prog 24 [.agg hd.cells] H Q := by
  have hno : ¬ hd.Right → Q (.bool false) H := fun c => by rwa [decide_eq_false c] at h
  obtain ⟨i1, i2, i3, i4, i5⟩ := id hi
  refine AC.enter (E := env Try.prog 160 (fun _ => .copy) (fun t => t == 72)) env_ok Try.func24 rfl rfl rfl (by simp only [List.length_cons, List.length_nil]; exact of_decide_eq_true rfl) ?_
  by_cases c1 : hd.min < 1
  case pos => ((try simp only [go_sem, ↓reduceIte, reduceCtorEq, Nat.reduceLT, Nat.reduceEqDiff, Nat.reduceBEq, Nat.reduceAdd, Nat.reduceMul, Nat.reduceSub, Nat.reduceLeDiff, Int.reduceNeg, Int.reduceLT, Int.reduceLE, Int.reduceEq, Int.reduceAdd, Int.reduceToNat, c1, get_last]); repeat ((first | refine AW.seq ?_ | refine AW.region env_ok ?_ | refine AW.region envR_ok ?_ | refine AW.skip ?_ | refine AW.block ?_ | refine AW.exit ?_ | refine AW.ret ?_ | (refine AW.cond (b := true) ?_ ?_; simp only [ev, upd, ↓reduceIte, Nat.reduceEqDiff]; rw [if_pos rfl]) | (refine AW.cond (b := false) ?_ ?_; simp only [ev, upd, ↓reduceIte, Nat.reduceEqDiff]; rw [if_neg Bool.false_ne_true]) | fail) <;> try simp only [go_sem, ↓reduceIte, reduceCtorEq, Nat.reduceLT, Nat.reduceEqDiff, Nat.reduceBEq, Nat.reduceAdd, Nat.reduceMul, Nat.reduceSub, Nat.reduceLeDiff, Int.reduceNeg, Int.reduceLT, Int.reduceLE, Int.reduceEq, Int.reduceAdd, Int.reduceToNat, c1, get_last])); exact .inr (by rw [cut1]; exact hno fun c => by have := c.1; unfold HD.nums at this; omega)
  by_cases c2 : hd.min > 255
  case pos => ((try simp only [go_sem, ↓reduceIte, reduceCtorEq, Nat.reduceLT, Nat.reduceEqDiff, Nat.reduceBEq, Nat.reduceAdd, Nat.reduceMul, Nat.reduceSub, Nat.reduceLeDiff, Int.reduceNeg, Int.reduceLT, Int.reduceLE, Int.reduceEq, Int.reduceAdd, Int.reduceToNat, c1, c2, get_last]); repeat ((first | refine AW.seq ?_ | refine AW.region env_ok ?_ | refine AW.region envR_ok ?_ | refine AW.skip ?_ | refine AW.block ?_ | refine AW.exit ?_ | refine AW.ret ?_ | (refine AW.cond (b := true) ?_ ?_; simp only [ev, upd, ↓reduceIte, Nat.reduceEqDiff]; rw [if_pos rfl]) | (refine AW.cond (b := false) ?_ ?_; simp only [ev, upd, ↓reduceIte, Nat.reduceEqDiff]; rw [if_neg Bool.false_ne_true]) | fail) <;> try simp only [go_sem, ↓reduceIte, reduceCtorEq, Nat.reduceLT, Nat.reduceEqDiff, Nat.reduceBEq, Nat.reduceAdd, Nat.reduceMul, Nat.reduceSub, Nat.reduceLeDiff, Int.reduceNeg, Int.reduceLT, Int.reduceLE, Int.reduceEq, Int.reduceAdd, Int.reduceToNat, c1, c2, get_last])); exact .inr (by rw [cut1]; exact hno fun c => by have := c.1; unfold HD.nums at this; omega)
  by_cases c3 : hd.base < -128
  case pos => ((try simp only [go_sem, ↓reduceIte, reduceCtorEq, Nat.reduceLT, Nat.reduceEqDiff, Nat.reduceBEq, Nat.reduceAdd, Nat.reduceMul, Nat.reduceSub, Nat.reduceLeDiff, Int.reduceNeg, Int.reduceLT, Int.reduceLE, Int.reduceEq, Int.reduceAdd, Int.reduceToNat, c1, c2, c3, get_last]); repeat ((first | refine AW.seq ?_ | refine AW.region env_ok ?_ | refine AW.region envR_ok ?_ | refine AW.skip ?_ | refine AW.block ?_ | refine AW.exit ?_ | refine AW.ret ?_ | (refine AW.cond (b := true) ?_ ?_; simp only [ev, upd, ↓reduceIte, Nat.reduceEqDiff]; rw [if_pos rfl]) | (refine AW.cond (b := false) ?_ ?_; simp only [ev, upd, ↓reduceIte, Nat.reduceEqDiff]; rw [if_neg Bool.false_ne_true]) | fail) <;> try simp only [go_sem, ↓reduceIte, reduceCtorEq, Nat.reduceLT, Nat.reduceEqDiff, Nat.reduceBEq, Nat.reduceAdd, Nat.reduceMul, Nat.reduceSub, Nat.reduceLeDiff, Int.reduceNeg, Int.reduceLT, Int.reduceLE, Int.reduceEq, Int.reduceAdd, Int.reduceToNat, c1, c2, c3, get_last])); exact .inr (by rw [cut1]; exact hno fun c => by have := c.1; unfold HD.nums at this; omega)
  by_cases c4 : hd.base > 127
  case pos => ((try simp only [go_sem, ↓reduceIte, reduceCtorEq, Nat.reduceLT, Nat.reduceEqDiff, Nat.reduceBEq, Nat.reduceAdd, Nat.reduceMul, Nat.reduceSub, Nat.reduceLeDiff, Int.reduceNeg, Int.reduceLT, Int.reduceLE, Int.reduceEq, Int.reduceAdd, Int.reduceToNat, c1, c2, c3, c4, get_last]); repeat ((first | refine AW.seq ?_ | refine AW.region env_ok ?_ | refine AW.region envR_ok ?_ | refine AW.skip ?_ | refine AW.block ?_ | refine AW.exit ?_ | refine AW.ret ?_ | (refine AW.cond (b := true) ?_ ?_; simp only [ev, upd, ↓reduceIte, Nat.reduceEqDiff]; rw [if_pos rfl]) | (refine AW.cond (b := false) ?_ ?_; simp only [ev, upd, ↓reduceIte, Nat.reduceEqDiff]; rw [if_neg Bool.false_ne_true]) | fail) <;> try simp only [go_sem, ↓reduceIte, reduceCtorEq, Nat.reduceLT, Nat.reduceEqDiff, Nat.reduceBEq, Nat.reduceAdd, Nat.reduceMul, Nat.reduceSub, Nat.reduceLeDiff, Int.reduceNeg, Int.reduceLT, Int.reduceLE, Int.reduceEq, Int.reduceAdd, Int.reduceToNat, c1, c2, c3, c4, get_last])); exact .inr (by rw [cut1]; exact hno fun c => by have := c.1; unfold HD.nums at this; omega)
  by_cases c5 : hd.range < 1
  case pos => ((try simp only [go_sem, ↓reduceIte, reduceCtorEq, Nat.reduceLT, Nat.reduceEqDiff, Nat.reduceBEq, Nat.reduceAdd, Nat.reduceMul, Nat.reduceSub, Nat.reduceLeDiff, Int.reduceNeg, Int.reduceLT, Int.reduceLE, Int.reduceEq, Int.reduceAdd, Int.reduceToNat, c1, c2, c3, c4, c5, get_last]); repeat ((first | refine AW.seq ?_ | refine AW.region env_ok ?_ | refine AW.region envR_ok ?_ | refine AW.skip ?_ | refine AW.block ?_ | refine AW.exit ?_ | refine AW.ret ?_ | (refine AW.cond (b := true) ?_ ?_; simp only [ev, upd, ↓reduceIte, Nat.reduceEqDiff]; rw [if_pos rfl]) | (refine AW.cond (b := false) ?_ ?_; simp only [ev, upd, ↓reduceIte, Nat.reduceEqDiff]; rw [if_neg Bool.false_ne_true]) | fail) <;> try simp only [go_sem, ↓reduceIte, reduceCtorEq, Nat.reduceLT, Nat.reduceEqDiff, Nat.reduceBEq, Nat.reduceAdd, Nat.reduceMul, Nat.reduceSub, Nat.reduceLeDiff, Int.reduceNeg, Int.reduceLT, Int.reduceLE, Int.reduceEq, Int.reduceAdd, Int.reduceToNat, c1, c2, c3, c4, c5, get_last])); exact .inr (by rw [cut1]; exact hno fun c => by have := c.1; unfold HD.nums at this; omega)
  by_cases c6 : hd.range > 255
  case pos => ((try simp only [go_sem, ↓reduceIte, reduceCtorEq, Nat.reduceLT, Nat.reduceEqDiff, Nat.reduceBEq, Nat.reduceAdd, Nat.reduceMul, Nat.reduceSub, Nat.reduceLeDiff, Int.reduceNeg, Int.reduceLT, Int.reduceLE, Int.reduceEq, Int.reduceAdd, Int.reduceToNat, c1, c2, c3, c4, c5, c6, get_last]); repeat ((first | refine AW.seq ?_ | refine AW.region env_ok ?_ | refine AW.region envR_ok ?_ | refine AW.skip ?_ | refine AW.block ?_ | refine AW.exit ?_ | refine AW.ret ?_ | (refine AW.cond (b := true) ?_ ?_; simp only [ev, upd, ↓reduceIte, Nat.reduceEqDiff]; rw [if_pos rfl]) | (refine AW.cond (b := false) ?_ ?_; simp only [ev, upd, ↓reduceIte, Nat.reduceEqDiff]; rw [if_neg Bool.false_ne_true]) | fail) <;> try simp only [go_sem, ↓reduceIte, reduceCtorEq, Nat.reduceLT, Nat.reduceEqDiff, Nat.reduceBEq, Nat.reduceAdd, Nat.reduceMul, Nat.reduceSub, Nat.reduceLeDiff, Int.reduceNeg, Int.reduceLT, Int.reduceLE, Int.reduceEq, Int.reduceAdd, Int.reduceToNat, c1, c2, c3, c4, c5, c6, get_last])); exact .inr (by rw [cut1]; exact hno fun c => by have := c.1; unfold HD.nums at this; omega)
  by_cases c7 : hd.codes < 1
  case pos => ((try simp only [go_sem, ↓reduceIte, reduceCtorEq, Nat.reduceLT, Nat.reduceEqDiff, Nat.reduceBEq, Nat.reduceAdd, Nat.reduceMul, Nat.reduceSub, Nat.reduceLeDiff, Int.reduceNeg, Int.reduceLT, Int.reduceLE, Int.reduceEq, Int.reduceAdd, Int.reduceToNat, c1, c2, c3, c4, c5, c6, c7, get_last]); repeat ((first | refine AW.seq ?_ | refine AW.region env_ok ?_ | refine AW.region envR_ok ?_ | refine AW.skip ?_ | refine AW.block ?_ | refine AW.exit ?_ | refine AW.ret ?_ | (refine AW.cond (b := true) ?_ ?_; simp only [ev, upd, ↓reduceIte, Nat.reduceEqDiff]; rw [if_pos rfl]) | (refine AW.cond (b := false) ?_ ?_; simp only [ev, upd, ↓reduceIte, Nat.reduceEqDiff]; rw [if_neg Bool.false_ne_true]) | fail) <;> try simp only [go_sem, ↓reduceIte, reduceCtorEq, Nat.reduceLT, Nat.reduceEqDiff, Nat.reduceBEq, Nat.reduceAdd, Nat.reduceMul, Nat.reduceSub, Nat.reduceLeDiff, Int.reduceNeg, Int.reduceLT, Int.reduceLE, Int.reduceEq, Int.reduceAdd, Int.reduceToNat, c1, c2, c3, c4, c5, c6, c7, get_last])); exact .inr (by rw [cut1]; exact hno fun c => by have := c.1; unfold HD.nums at this; omega)
  by_cases c8 : hd.codes > 255
  case pos => ((try simp only [go_sem, ↓reduceIte, reduceCtorEq, Nat.reduceLT, Nat.reduceEqDiff, Nat.reduceBEq, Nat.reduceAdd, Nat.reduceMul, Nat.reduceSub, Nat.reduceLeDiff, Int.reduceNeg, Int.reduceLT, Int.reduceLE, Int.reduceEq, Int.reduceAdd, Int.reduceToNat, c1, c2, c3, c4, c5, c6, c7, c8, get_last]); repeat ((first | refine AW.seq ?_ | refine AW.region env_ok ?_ | refine AW.region envR_ok ?_ | refine AW.skip ?_ | refine AW.block ?_ | refine AW.exit ?_ | refine AW.ret ?_ | (refine AW.cond (b := true) ?_ ?_; simp only [ev, upd, ↓reduceIte, Nat.reduceEqDiff]; rw [if_pos rfl]) | (refine AW.cond (b := false) ?_ ?_; simp only [ev, upd, ↓reduceIte, Nat.reduceEqDiff]; rw [if_neg Bool.false_ne_true]) | fail) <;> try simp only [go_sem, ↓reduceIte, reduceCtorEq, Nat.reduceLT, Nat.reduceEqDiff, Nat.reduceBEq, Nat.reduceAdd, Nat.reduceMul, Nat.reduceSub, Nat.reduceLeDiff, Int.reduceNeg, Int.reduceLT, Int.reduceLE, Int.reduceEq, Int.reduceAdd, Int.reduceToNat, c1, c2, c3, c4, c5, c6, c7, c8, get_last])); exact .inr (by rw [cut1]; exact hno fun c => by have := c.1; unfold HD.nums at this; omega)
  have ew : IntKind.i64.wrap (hd.codes - 1) = hd.codes - 1 := IntWalk.i64_in _ (by omega)
  by_cases c9 : (hd.lens.length : Int) = hd.codes - 1
  case neg => ((try simp only [go_sem, ↓reduceIte, reduceCtorEq, Nat.reduceLT, Nat.reduceEqDiff, Nat.reduceBEq, Nat.reduceAdd, Nat.reduceMul, Nat.reduceSub, Nat.reduceLeDiff, Int.reduceNeg, Int.reduceLT, Int.reduceLE, Int.reduceEq, Int.reduceAdd, Int.reduceToNat, c1, c2, c3, c4, c5, c6, c7, c8, ew, c9, get_last]); repeat ((first | refine AW.seq ?_ | refine AW.region env_ok ?_ | refine AW.region envR_ok ?_ | refine AW.skip ?_ | refine AW.block ?_ | refine AW.exit ?_ | refine AW.ret ?_ | (refine AW.cond (b := true) ?_ ?_; simp only [ev, upd, ↓reduceIte, Nat.reduceEqDiff]; rw [if_pos rfl]) | (refine AW.cond (b := false) ?_ ?_; simp only [ev, upd, ↓reduceIte, Nat.reduceEqDiff]; rw [if_neg Bool.false_ne_true]) | fail) <;> try simp only [go_sem, ↓reduceIte, reduceCtorEq, Nat.reduceLT, Nat.reduceEqDiff, Nat.reduceBEq, Nat.reduceAdd, Nat.reduceMul, Nat.reduceSub, Nat.reduceLeDiff, Int.reduceNeg, Int.reduceLT, Int.reduceLE, Int.reduceEq, Int.reduceAdd, Int.reduceToNat, c1, c2, c3, c4, c5, c6, c7, c8, ew, c9, get_last])); exact .inr (by rw [cut1]; exact hno fun c => by have := c.1; unfold HD.nums at this; omega)
  by_cases c10 : (hd.dirs.length : Int) < 1
  case pos => ((try simp only [go_sem, ↓reduceIte, reduceCtorEq, Nat.reduceLT, Nat.reduceEqDiff, Nat.reduceBEq, Nat.reduceAdd, Nat.reduceMul, Nat.reduceSub, Nat.reduceLeDiff, Int.reduceNeg, Int.reduceLT, Int.reduceLE, Int.reduceEq, Int.reduceAdd, Int.reduceToNat, c1, c2, c3, c4, c5, c6, c7, c8, ew, c9, c10, get_last]); repeat ((first | refine AW.seq ?_ | refine AW.region env_ok ?_ | refine AW.region envR_ok ?_ | refine AW.skip ?_ | refine AW.block ?_ | refine AW.exit ?_ | refine AW.ret ?_ | (refine AW.cond (b := true) ?_ ?_; simp only [ev, upd, ↓reduceIte, Nat.reduceEqDiff]; rw [if_pos rfl]) | (refine AW.cond (b := false) ?_ ?_; simp only [ev, upd, ↓reduceIte, Nat.reduceEqDiff]; rw [if_neg Bool.false_ne_true]) | fail) <;> try simp only [go_sem, ↓reduceIte, reduceCtorEq, Nat.reduceLT, Nat.reduceEqDiff, Nat.reduceBEq, Nat.reduceAdd, Nat.reduceMul, Nat.reduceSub, Nat.reduceLeDiff, Int.reduceNeg, Int.reduceLT, Int.reduceLE, Int.reduceEq, Int.reduceAdd, Int.reduceToNat, c1, c2, c3, c4, c5, c6, c7, c8, ew, c9, c10, get_last])); exact .inr (by rw [cut1]; exact hno fun c => by have := c.1; unfold HD.nums at this; omega)
  by_cases c11 : (hd.dirs.length : Int) > 200
  case pos => ((try simp only [go_sem, ↓reduceIte, reduceCtorEq, Nat.reduceLT, Nat.reduceEqDiff, Nat.reduceBEq, Nat.reduceAdd, Nat.reduceMul, Nat.reduceSub, Nat.reduceLeDiff, Int.reduceNeg, Int.reduceLT, Int.reduceLE, Int.reduceEq, Int.reduceAdd, Int.reduceToNat, c1, c2, c3, c4, c5, c6, c7, c8, ew, c9, c10, c11, get_last]); repeat ((first | refine AW.seq ?_ | refine AW.region env_ok ?_ | refine AW.region envR_ok ?_ | refine AW.skip ?_ | refine AW.block ?_ | refine AW.exit ?_ | refine AW.ret ?_ | (refine AW.cond (b := true) ?_ ?_; simp only [ev, upd, ↓reduceIte, Nat.reduceEqDiff]; rw [if_pos rfl]) | (refine AW.cond (b := false) ?_ ?_; simp only [ev, upd, ↓reduceIte, Nat.reduceEqDiff]; rw [if_neg Bool.false_ne_true]) | fail) <;> try simp only [go_sem, ↓reduceIte, reduceCtorEq, Nat.reduceLT, Nat.reduceEqDiff, Nat.reduceBEq, Nat.reduceAdd, Nat.reduceMul, Nat.reduceSub, Nat.reduceLeDiff, Int.reduceNeg, Int.reduceLT, Int.reduceLE, Int.reduceEq, Int.reduceAdd, Int.reduceToNat, c1, c2, c3, c4, c5, c6, c7, c8, ew, c9, c10, c11, get_last])); exact .inr (by rw [cut1]; exact hno fun c => by have := c.1; unfold HD.nums at this; omega)
  by_cases c12 : (hd.files.length : Int) > 200
  case pos => ((try simp only [go_sem, ↓reduceIte, reduceCtorEq, Nat.reduceLT, Nat.reduceEqDiff, Nat.reduceBEq, Nat.reduceAdd, Nat.reduceMul, Nat.reduceSub, Nat.reduceLeDiff, Int.reduceNeg, Int.reduceLT, Int.reduceLE, Int.reduceEq, Int.reduceAdd, Int.reduceToNat, c1, c2, c3, c4, c5, c6, c7, c8, ew, c9, c10, c11, c12, get_last]); repeat ((first | refine AW.seq ?_ | refine AW.region env_ok ?_ | refine AW.region envR_ok ?_ | refine AW.skip ?_ | refine AW.block ?_ | refine AW.exit ?_ | refine AW.ret ?_ | (refine AW.cond (b := true) ?_ ?_; simp only [ev, upd, ↓reduceIte, Nat.reduceEqDiff]; rw [if_pos rfl]) | (refine AW.cond (b := false) ?_ ?_; simp only [ev, upd, ↓reduceIte, Nat.reduceEqDiff]; rw [if_neg Bool.false_ne_true]) | fail) <;> try simp only [go_sem, ↓reduceIte, reduceCtorEq, Nat.reduceLT, Nat.reduceEqDiff, Nat.reduceBEq, Nat.reduceAdd, Nat.reduceMul, Nat.reduceSub, Nat.reduceLeDiff, Int.reduceNeg, Int.reduceLT, Int.reduceLE, Int.reduceEq, Int.reduceAdd, Int.reduceToNat, c1, c2, c3, c4, c5, c6, c7, c8, ew, c9, c10, c11, c12, get_last])); exact .inr (by rw [cut1]; exact hno fun c => by have := c.1; unfold HD.nums at this; omega)
  have hnums : hd.nums := by unfold HD.nums; omega
  ((try simp only [go_sem, ↓reduceIte, reduceCtorEq, Nat.reduceLT, Nat.reduceEqDiff, Nat.reduceBEq, Nat.reduceAdd, Nat.reduceMul, Nat.reduceSub, Nat.reduceLeDiff, Int.reduceNeg, Int.reduceLT, Int.reduceLE, Int.reduceEq, Int.reduceAdd, Int.reduceToNat, c1, c2, c3, c4, c5, c6, c7, c8, ew, c9, c10, c11, c12, get_last]); repeat ((first | refine AW.seq ?_ | refine AW.region env_ok ?_ | refine AW.region envR_ok ?_ | refine AW.skip ?_ | refine AW.block ?_ | refine AW.exit ?_ | refine AW.ret ?_ | (refine AW.cond (b := true) ?_ ?_; simp only [ev, upd, ↓reduceIte, Nat.reduceEqDiff]; rw [if_pos rfl]) | (refine AW.cond (b := false) ?_ ?_; simp only [ev, upd, ↓reduceIte, Nat.reduceEqDiff]; rw [if_neg Bool.false_ne_true]) | fail) <;> try simp only [go_sem, ↓reduceIte, reduceCtorEq, Nat.reduceLT, Nat.reduceEqDiff, Nat.reduceBEq, Nat.reduceAdd, Nat.reduceMul, Nat.reduceSub, Nat.reduceLeDiff, Int.reduceNeg, Int.reduceLT, Int.reduceLE, Int.reduceEq, Int.reduceAdd, Int.reduceToNat, c1, c2, c3, c4, c5, c6, c7, c8, ew, c9, c10, c11, c12, get_last]))
  refine AW.loop (fun st => ∃ i : Nat, i ≤ hd.lens.length ∧ st.σ 4 = .int .i64 i ∧ st.σ 3 = .sl (iA known) none () ∧
      st.σ 1 = .ptr (some (H.length, 0)) ∧ (∀ j x, j < i → hd.lens[j]? = some x → 0 ≤ x ∧ x ≤ 255 ∧ (j < 12 → x = known.getD j 0)) ∧ st.H = H ++ [.cells hd.cells])
    (fun st => match st.σ 4 with | .int _ i => hd.lens.length - i.toNat | _ => 0) ⟨0, by omega, rfl, rfl, rfl, by omega, rfl⟩ ?_
  rintro ⟨σ, H2⟩ ⟨i, hi', h4, h3, h1, hz, rfl⟩
  simp only at h4 h3 h1
  by_cases e : (i : Int) < hd.lens.length
  · have hlt : i < hd.lens.length := by omega
    have hb : (0 : Int) ≤ i ∧ (i : Int) < hd.lens.length := by omega
    have ew2 : IntKind.i64.wrap ((i : Int) + 1) = ((i + 1 : Nat) : Int) := IntWalk.i64_in _ (by omega)
    have hl := iA_at hd.lens i (V.undef ()) hlt
    ((try simp only [go_sem, ↓reduceIte, reduceCtorEq, Nat.reduceLT, Nat.reduceEqDiff, Nat.reduceBEq, Nat.reduceAdd, Nat.reduceMul, Nat.reduceSub, Nat.reduceLeDiff, Int.reduceNeg, Int.reduceLT, Int.reduceLE, Int.reduceEq, Int.reduceAdd, Int.reduceToNat, h4, h1, get_last, e]); repeat ((first | refine AW.seq ?_ | refine AW.region env_ok ?_ | refine AW.region envR_ok ?_ | refine AW.skip ?_ | refine AW.block ?_ | refine AW.exit ?_ | refine AW.ret ?_ | (refine AW.cond (b := true) ?_ ?_; simp only [ev, upd, ↓reduceIte, Nat.reduceEqDiff]; rw [if_pos rfl]) | (refine AW.cond (b := false) ?_ ?_; simp only [ev, upd, ↓reduceIte, Nat.reduceEqDiff]; rw [if_neg Bool.false_ne_true]) | fail) <;> try simp only [go_sem, ↓reduceIte, reduceCtorEq, Nat.reduceLT, Nat.reduceEqDiff, Nat.reduceBEq, Nat.reduceAdd, Nat.reduceMul, Nat.reduceSub, Nat.reduceLeDiff, Int.reduceNeg, Int.reduceLT, Int.reduceLE, Int.reduceEq, Int.reduceAdd, Int.reduceToNat, h4, h1, get_last, e]))
    refine AW.chain env_ok [0, 1, 0, 7, 15, 31, 63, 127, 255, 127, 1023, 2047, 4095, 8191, 16383, 32767, 65535, 131071, 262143, 524287, 262143, 2097151, 4194303, 262143, 262143, 25427967, 58982399, 134217727, 268435455, 536870911] [0, 1, 2, 3, 4, 5, 6, 7, 8, 9, 10, 11, 12, 13, 14, 15, 16, 17, 18, 19, 20, 21, 22, 23, 24, 25, 26, 27, 28, 29] [] mixed (by decide) ?_
    by_cases d1 : hd.lens[i] < 0
    · ((try simp only [go_sem, ↓reduceIte, reduceCtorEq, Nat.reduceLT, Nat.reduceEqDiff, Nat.reduceBEq, Nat.reduceAdd, Nat.reduceMul, Nat.reduceSub, Nat.reduceLeDiff, Int.reduceNeg, Int.reduceLT, Int.reduceLE, Int.reduceEq, Int.reduceAdd, Int.reduceToNat, h4, h3, h1, get_last, hb, hl, d1]); repeat ((first | refine AW.seq ?_ | refine AW.region env_ok ?_ | refine AW.region envR_ok ?_ | refine AW.skip ?_ | refine AW.block ?_ | refine AW.exit ?_ | refine AW.ret ?_ | (refine AW.cond (b := true) ?_ ?_; simp only [ev, upd, ↓reduceIte, Nat.reduceEqDiff]; rw [if_pos rfl]) | (refine AW.cond (b := false) ?_ ?_; simp only [ev, upd, ↓reduceIte, Nat.reduceEqDiff]; rw [if_neg Bool.false_ne_true]) | fail) <;> try simp only [go_sem, ↓reduceIte, reduceCtorEq, Nat.reduceLT, Nat.reduceEqDiff, Nat.reduceBEq, Nat.reduceAdd, Nat.reduceMul, Nat.reduceSub, Nat.reduceLeDiff, Int.reduceNeg, Int.reduceLT, Int.reduceLE, Int.reduceEq, Int.reduceAdd, Int.reduceToNat, h4, h3, h1, get_last, hb, hl, d1]))
      refine .inr ?_
      rw [cut1]
      exact hno fun c => by have := (c.2.1 i _ (List.getElem?_eq_getElem hlt)).1; omega
    by_cases d2 : hd.lens[i] > 255
    · ((try simp only [go_sem, ↓reduceIte, reduceCtorEq, Nat.reduceLT, Nat.reduceEqDiff, Nat.reduceBEq, Nat.reduceAdd, Nat.reduceMul, Nat.reduceSub, Nat.reduceLeDiff, Int.reduceNeg, Int.reduceLT, Int.reduceLE, Int.reduceEq, Int.reduceAdd, Int.reduceToNat, h4, h3, h1, get_last, hb, hl, d1, d2]); repeat ((first | refine AW.seq ?_ | refine AW.region env_ok ?_ | refine AW.region envR_ok ?_ | refine AW.skip ?_ | refine AW.block ?_ | refine AW.exit ?_ | refine AW.ret ?_ | (refine AW.cond (b := true) ?_ ?_; simp only [ev, upd, ↓reduceIte, Nat.reduceEqDiff]; rw [if_pos rfl]) | (refine AW.cond (b := false) ?_ ?_; simp only [ev, upd, ↓reduceIte, Nat.reduceEqDiff]; rw [if_neg Bool.false_ne_true]) | fail) <;> try simp only [go_sem, ↓reduceIte, reduceCtorEq, Nat.reduceLT, Nat.reduceEqDiff, Nat.reduceBEq, Nat.reduceAdd, Nat.reduceMul, Nat.reduceSub, Nat.reduceLeDiff, Int.reduceNeg, Int.reduceLT, Int.reduceLE, Int.reduceEq, Int.reduceAdd, Int.reduceToNat, h4, h3, h1, get_last, hb, hl, d1, d2]))
      refine .inr ?_
      rw [cut1]
      exact hno fun c => by have := (c.2.1 i _ (List.getElem?_eq_getElem hlt)).2.1; omega
    have hz2 : (i < 12 → hd.lens[i] = known.getD i 0) → ∀ (j : Nat) (x : Int), j < i + 1 → hd.lens[j]? = some x → 0 ≤ x ∧ x ≤ 255 ∧ (j < 12 → x = known.getD j 0) := by
      intro hk j x hj hx
      by_cases c : j = i
      · subst c
        rw [List.getElem?_eq_getElem hlt] at hx
        cases hx
        exact ⟨by omega, by omega, hk⟩
      · exact hz j x (by omega) hx
    by_cases d3 : (i : Int) < 12
    · have hik : i < known.length := by rw [show known.length = 12 from rfl]; omega
      have hk := iA_at known i (V.undef ()) hik
      have hkv : known[i] = known.getD i 0 := by simp [hik]
      have hb2 : (0 : Int) ≤ i ∧ (i : Int) < known.length := by omega
      by_cases d4 : hd.lens[i] = known[i]
      · have d1' : ¬ known[i] < 0 := d4 ▸ d1
        have d2' : ¬ known[i] > 255 := d4 ▸ d2
        ((try simp only [go_sem, ↓reduceIte, reduceCtorEq, Nat.reduceLT, Nat.reduceEqDiff, Nat.reduceBEq, Nat.reduceAdd, Nat.reduceMul, Nat.reduceSub, Nat.reduceLeDiff, Int.reduceNeg, Int.reduceLT, Int.reduceLE, Int.reduceEq, Int.reduceAdd, Int.reduceToNat, h4, h3, h1, get_last, hb, hl, d1', d2', d3, hb2, hk, d4, ew2]); repeat ((first | refine AW.seq ?_ | refine AW.region env_ok ?_ | refine AW.region envR_ok ?_ | refine AW.skip ?_ | refine AW.block ?_ | refine AW.exit ?_ | refine AW.ret ?_ | (refine AW.cond (b := true) ?_ ?_; simp only [ev, upd, ↓reduceIte, Nat.reduceEqDiff]; rw [if_pos rfl]) | (refine AW.cond (b := false) ?_ ?_; simp only [ev, upd, ↓reduceIte, Nat.reduceEqDiff]; rw [if_neg Bool.false_ne_true]) | fail) <;> try simp only [go_sem, ↓reduceIte, reduceCtorEq, Nat.reduceLT, Nat.reduceEqDiff, Nat.reduceBEq, Nat.reduceAdd, Nat.reduceMul, Nat.reduceSub, Nat.reduceLeDiff, Int.reduceNeg, Int.reduceLT, Int.reduceLE, Int.reduceEq, Int.reduceAdd, Int.reduceToNat, h4, h3, h1, get_last, hb, hl, d1', d2', d3, hb2, hk, d4, ew2]))
        exact ⟨⟨i + 1, by omega, rfl, hz2 fun _ => by rw [d4, hkv]⟩, by omega⟩
      · ((try simp only [go_sem, ↓reduceIte, reduceCtorEq, Nat.reduceLT, Nat.reduceEqDiff, Nat.reduceBEq, Nat.reduceAdd, Nat.reduceMul, Nat.reduceSub, Nat.reduceLeDiff, Int.reduceNeg, Int.reduceLT, Int.reduceLE, Int.reduceEq, Int.reduceAdd, Int.reduceToNat, h4, h3, h1, get_last, hb, hl, d1, d2, d3, hb2, hk, d4]); repeat ((first | refine AW.seq ?_ | refine AW.region env_ok ?_ | refine AW.region envR_ok ?_ | refine AW.skip ?_ | refine AW.block ?_ | refine AW.exit ?_ | refine AW.ret ?_ | (refine AW.cond (b := true) ?_ ?_; simp only [ev, upd, ↓reduceIte, Nat.reduceEqDiff]; rw [if_pos rfl]) | (refine AW.cond (b := false) ?_ ?_; simp only [ev, upd, ↓reduceIte, Nat.reduceEqDiff]; rw [if_neg Bool.false_ne_true]) | fail) <;> try simp only [go_sem, ↓reduceIte, reduceCtorEq, Nat.reduceLT, Nat.reduceEqDiff, Nat.reduceBEq, Nat.reduceAdd, Nat.reduceMul, Nat.reduceSub, Nat.reduceLeDiff, Int.reduceNeg, Int.reduceLT, Int.reduceLE, Int.reduceEq, Int.reduceAdd, Int.reduceToNat, h4, h3, h1, get_last, hb, hl, d1, d2, d3, hb2, hk, d4]))
        refine .inr ?_
        rw [cut1]
        exact hno fun c => d4 (by rw [hkv]; exact (c.2.1 i _ (List.getElem?_eq_getElem hlt)).2.2 (by omega))
    · ((try simp only [go_sem, ↓reduceIte, reduceCtorEq, Nat.reduceLT, Nat.reduceEqDiff, Nat.reduceBEq, Nat.reduceAdd, Nat.reduceMul, Nat.reduceSub, Nat.reduceLeDiff, Int.reduceNeg, Int.reduceLT, Int.reduceLE, Int.reduceEq, Int.reduceAdd, Int.reduceToNat, h4, h3, h1, get_last, hb, hl, d1, d2, d3, ew2]); repeat ((first | refine AW.seq ?_ | refine AW.region env_ok ?_ | refine AW.region envR_ok ?_ | refine AW.skip ?_ | refine AW.block ?_ | refine AW.exit ?_ | refine AW.ret ?_ | (refine AW.cond (b := true) ?_ ?_; simp only [ev, upd, ↓reduceIte, Nat.reduceEqDiff]; rw [if_pos rfl]) | (refine AW.cond (b := false) ?_ ?_; simp only [ev, upd, ↓reduceIte, Nat.reduceEqDiff]; rw [if_neg Bool.false_ne_true]) | fail) <;> try simp only [go_sem, ↓reduceIte, reduceCtorEq, Nat.reduceLT, Nat.reduceEqDiff, Nat.reduceBEq, Nat.reduceAdd, Nat.reduceMul, Nat.reduceSub, Nat.reduceLeDiff, Int.reduceNeg, Int.reduceLT, Int.reduceLE, Int.reduceEq, Int.reduceAdd, Int.reduceToNat, h4, h3, h1, get_last, hb, hl, d1, d2, d3, ew2]))
      exact ⟨⟨i + 1, by omega, rfl, hz2 fun c => absurd c (by omega)⟩, by omega⟩
  · have hlens : hd.lensOk := fun j x hx => hz j x (by have := (List.getElem?_eq_some_iff.1 hx).1; omega) hx
    ((try simp only [go_sem, ↓reduceIte, reduceCtorEq, Nat.reduceLT, Nat.reduceEqDiff, Nat.reduceBEq, Nat.reduceAdd, Nat.reduceMul, Nat.reduceSub, Nat.reduceLeDiff, Int.reduceNeg, Int.reduceLT, Int.reduceLE, Int.reduceEq, Int.reduceAdd, Int.reduceToNat, h4, h1, get_last, e]); repeat ((first | refine AW.seq ?_ | refine AW.region env_ok ?_ | refine AW.region envR_ok ?_ | refine AW.skip ?_ | refine AW.block ?_ | refine AW.exit ?_ | refine AW.ret ?_ | (refine AW.cond (b := true) ?_ ?_; simp only [ev, upd, ↓reduceIte, Nat.reduceEqDiff]; rw [if_pos rfl]) | (refine AW.cond (b := false) ?_ ?_; simp only [ev, upd, ↓reduceIte, Nat.reduceEqDiff]; rw [if_neg Bool.false_ne_true]) | fail) <;> try simp only [go_sem, ↓reduceIte, reduceCtorEq, Nat.reduceLT, Nat.reduceEqDiff, Nat.reduceBEq, Nat.reduceAdd, Nat.reduceMul, Nat.reduceSub, Nat.reduceLeDiff, Int.reduceNeg, Int.reduceLT, Int.reduceLE, Int.reduceEq, Int.reduceAdd, Int.reduceToNat, h4, h1, get_last, e]))
    refine AW.loop (fun st => ∃ i : Nat, i ≤ hd.dirs.length ∧ st.σ 5 = .int .i64 i ∧
        st.σ 1 = .ptr (some (H.length, 0)) ∧ (∀ d ∈ hd.dirs.take i, textOk d = true) ∧ st.H = H ++ [.cells hd.cells])
      (fun st => match st.σ 5 with | .int _ i => hd.dirs.length - i.toNat | _ => 0) ⟨0, by omega, rfl, h1, by simp, rfl⟩ ?_
    rintro ⟨σ, H3⟩ ⟨i, hi', h5, h1, hz, rfl⟩
    simp only at h5 h1
    by_cases e : (i : Int) < hd.dirs.length
    · have hlt : i < hd.dirs.length := by omega
      have hb : (0 : Int) ≤ i ∧ (i : Int) < hd.dirs.length := by omega
      have ew2 : IntKind.i64.wrap ((i : Int) + 1) = ((i + 1 : Nat) : Int) := IntWalk.i64_in _ (by omega)
      ((try simp only [go_sem, ↓reduceIte, reduceCtorEq, Nat.reduceLT, Nat.reduceEqDiff, Nat.reduceBEq, Nat.reduceAdd, Nat.reduceMul, Nat.reduceSub, Nat.reduceLeDiff, Int.reduceNeg, Int.reduceLT, Int.reduceLE, Int.reduceEq, Int.reduceAdd, Int.reduceToNat, h5, h1, get_last, e, hb, tA_at _ i _ hlt]); repeat ((first | refine AW.seq ?_ | refine AW.region env_ok ?_ | refine AW.region envR_ok ?_ | refine AW.skip ?_ | refine AW.block ?_ | refine AW.exit ?_ | refine AW.ret ?_ | (refine AW.cond (b := true) ?_ ?_; simp only [ev, upd, ↓reduceIte, Nat.reduceEqDiff]; rw [if_pos rfl]) | (refine AW.cond (b := false) ?_ ?_; simp only [ev, upd, ↓reduceIte, Nat.reduceEqDiff]; rw [if_neg Bool.false_ne_true]) | fail) <;> try simp only [go_sem, ↓reduceIte, reduceCtorEq, Nat.reduceLT, Nat.reduceEqDiff, Nat.reduceBEq, Nat.reduceAdd, Nat.reduceMul, Nat.reduceSub, Nat.reduceLeDiff, Int.reduceNeg, Int.reduceLT, Int.reduceLE, Int.reduceEq, Int.reduceAdd, Int.reduceToNat, h5, h1, get_last, e, hb, tA_at _ i _ hlt]))
      refine rRight_spec (i4 _ (List.getElem_mem hlt)) ?_
      cases ht : textOk hd.dirs[i] with
      | false =>
        ((try simp only [go_sem, ↓reduceIte, reduceCtorEq, Nat.reduceLT, Nat.reduceEqDiff, Nat.reduceBEq, Nat.reduceAdd, Nat.reduceMul, Nat.reduceSub, Nat.reduceLeDiff, Int.reduceNeg, Int.reduceLT, Int.reduceLE, Int.reduceEq, Int.reduceAdd, Int.reduceToNat]); repeat ((first | refine AW.seq ?_ | refine AW.region env_ok ?_ | refine AW.region envR_ok ?_ | refine AW.skip ?_ | refine AW.block ?_ | refine AW.exit ?_ | refine AW.ret ?_ | (refine AW.cond (b := true) ?_ ?_; simp only [ev, upd, ↓reduceIte, Nat.reduceEqDiff]; rw [if_pos rfl]) | (refine AW.cond (b := false) ?_ ?_; simp only [ev, upd, ↓reduceIte, Nat.reduceEqDiff]; rw [if_neg Bool.false_ne_true]) | fail) <;> try simp only [go_sem, ↓reduceIte, reduceCtorEq, Nat.reduceLT, Nat.reduceEqDiff, Nat.reduceBEq, Nat.reduceAdd, Nat.reduceMul, Nat.reduceSub, Nat.reduceLeDiff, Int.reduceNeg, Int.reduceLT, Int.reduceLE, Int.reduceEq, Int.reduceAdd, Int.reduceToNat]))
        refine .inr ?_
        rw [cut1]
        exact hno fun c => by have := c.2.2.1 _ (List.getElem_mem hlt); rw [ht] at this; cases this
      | true =>
        ((try simp only [go_sem, ↓reduceIte, reduceCtorEq, Nat.reduceLT, Nat.reduceEqDiff, Nat.reduceBEq, Nat.reduceAdd, Nat.reduceMul, Nat.reduceSub, Nat.reduceLeDiff, Int.reduceNeg, Int.reduceLT, Int.reduceLE, Int.reduceEq, Int.reduceAdd, Int.reduceToNat, h5, ew2]); repeat ((first | refine AW.seq ?_ | refine AW.region env_ok ?_ | refine AW.region envR_ok ?_ | refine AW.skip ?_ | refine AW.block ?_ | refine AW.exit ?_ | refine AW.ret ?_ | (refine AW.cond (b := true) ?_ ?_; simp only [ev, upd, ↓reduceIte, Nat.reduceEqDiff]; rw [if_pos rfl]) | (refine AW.cond (b := false) ?_ ?_; simp only [ev, upd, ↓reduceIte, Nat.reduceEqDiff]; rw [if_neg Bool.false_ne_true]) | fail) <;> try simp only [go_sem, ↓reduceIte, reduceCtorEq, Nat.reduceLT, Nat.reduceEqDiff, Nat.reduceBEq, Nat.reduceAdd, Nat.reduceMul, Nat.reduceSub, Nat.reduceLeDiff, Int.reduceNeg, Int.reduceLT, Int.reduceLE, Int.reduceEq, Int.reduceAdd, Int.reduceToNat, h5, ew2]))
        refine ⟨⟨i + 1, by omega, rfl, h1, ?_⟩, by omega⟩
        intro d hd'
        rw [List.take_succ_eq_append_getElem hlt] at hd'
        rcases List.mem_append.1 hd' with hd' | hd'
        · exact hz d hd'
        · rw [List.mem_singleton.1 hd']; exact ht
    · have hdirs : hd.dirsOk := fun d hd' => hz d (by rw [List.take_of_length_le (by omega)]; exact hd')
      ((try simp only [go_sem, ↓reduceIte, reduceCtorEq, Nat.reduceLT, Nat.reduceEqDiff, Nat.reduceBEq, Nat.reduceAdd, Nat.reduceMul, Nat.reduceSub, Nat.reduceLeDiff, Int.reduceNeg, Int.reduceLT, Int.reduceLE, Int.reduceEq, Int.reduceAdd, Int.reduceToNat, h5, h1, get_last, e]); repeat ((first | refine AW.seq ?_ | refine AW.region env_ok ?_ | refine AW.region envR_ok ?_ | refine AW.skip ?_ | refine AW.block ?_ | refine AW.exit ?_ | refine AW.ret ?_ | (refine AW.cond (b := true) ?_ ?_; simp only [ev, upd, ↓reduceIte, Nat.reduceEqDiff]; rw [if_pos rfl]) | (refine AW.cond (b := false) ?_ ?_; simp only [ev, upd, ↓reduceIte, Nat.reduceEqDiff]; rw [if_neg Bool.false_ne_true]) | fail) <;> try simp only [go_sem, ↓reduceIte, reduceCtorEq, Nat.reduceLT, Nat.reduceEqDiff, Nat.reduceBEq, Nat.reduceAdd, Nat.reduceMul, Nat.reduceSub, Nat.reduceLeDiff, Int.reduceNeg, Int.reduceLT, Int.reduceLE, Int.reduceEq, Int.reduceAdd, Int.reduceToNat, h5, h1, get_last, e]))
      refine AW.loop (fun st => ∃ i : Nat, i ≤ hd.files.length ∧ st.σ 6 = .int .i64 i ∧
          st.σ 1 = .ptr (some (H.length, 0)) ∧ (∀ f ∈ hd.files.take i, textOk f.1 = true ∧ 0 ≤ f.2 ∧ f.2 ≤ (hd.dirs.length : Int) - 1) ∧ st.H = H ++ [.cells hd.cells])
        (fun st => match st.σ 6 with | .int _ i => hd.files.length - i.toNat | _ => 0) ⟨0, by omega, rfl, h1, by simp, rfl⟩ ?_
      rintro ⟨σ, H3⟩ ⟨i, hi', h6, h1, hz, rfl⟩
      simp only at h6 h1
      by_cases e : (i : Int) < hd.files.length
      · have hlt : i < hd.files.length := by omega
        have hb : (0 : Int) ≤ i ∧ (i : Int) < hd.files.length := by omega
        have ew2 : IntKind.i64.wrap ((i : Int) + 1) = ((i + 1 : Nat) : Int) := IntWalk.i64_in _ (by omega)
        ((try simp only [go_sem, ↓reduceIte, reduceCtorEq, Nat.reduceLT, Nat.reduceEqDiff, Nat.reduceBEq, Nat.reduceAdd, Nat.reduceMul, Nat.reduceSub, Nat.reduceLeDiff, Int.reduceNeg, Int.reduceLT, Int.reduceLE, Int.reduceEq, Int.reduceAdd, Int.reduceToNat, h6, h1, get_last, e]); repeat ((first | refine AW.seq ?_ | refine AW.region env_ok ?_ | refine AW.region envR_ok ?_ | refine AW.skip ?_ | refine AW.block ?_ | refine AW.exit ?_ | refine AW.ret ?_ | (refine AW.cond (b := true) ?_ ?_; simp only [ev, upd, ↓reduceIte, Nat.reduceEqDiff]; rw [if_pos rfl]) | (refine AW.cond (b := false) ?_ ?_; simp only [ev, upd, ↓reduceIte, Nat.reduceEqDiff]; rw [if_neg Bool.false_ne_true]) | fail) <;> try simp only [go_sem, ↓reduceIte, reduceCtorEq, Nat.reduceLT, Nat.reduceEqDiff, Nat.reduceBEq, Nat.reduceAdd, Nat.reduceMul, Nat.reduceSub, Nat.reduceLeDiff, Int.reduceNeg, Int.reduceLT, Int.reduceLE, Int.reduceEq, Int.reduceAdd, Int.reduceToNat, h6, h1, get_last, e]))
        refine AW.chain env_ok [0, 1, 0, 7, 15, 31, 63, 127, 255, 511, 1023, 511, 4095, 8191, 16383, 32767, 65535, 131071, 262143, 524287, 262143, 2097151, 4194303, 8388607, 262143, 17039359, 50593791, 134217727, 268435455] [0, 1, 2, 3, 4, 5, 6, 7, 8, 9, 10, 11, 12, 13, 14, 15, 16, 17, 18, 19, 20, 21, 22, 23, 24, 25, 26, 27, 28] [] mixed (by decide) ?_
        have ew3 : IntKind.i64.wrap ((hd.dirs.length : Int) - 1) = (hd.dirs.length : Int) - 1 := IntWalk.i64_in _ (by omega)
        ((try simp only [go_sem, ↓reduceIte, reduceCtorEq, Nat.reduceLT, Nat.reduceEqDiff, Nat.reduceBEq, Nat.reduceAdd, Nat.reduceMul, Nat.reduceSub, Nat.reduceLeDiff, Int.reduceNeg, Int.reduceLT, Int.reduceLE, Int.reduceEq, Int.reduceAdd, Int.reduceToNat, h6, h1, get_last, hb, fA_at _ i _ hlt]); repeat ((first | refine AW.seq ?_ | refine AW.region env_ok ?_ | refine AW.region envR_ok ?_ | refine AW.skip ?_ | refine AW.block ?_ | refine AW.exit ?_ | refine AW.ret ?_ | (refine AW.cond (b := true) ?_ ?_; simp only [ev, upd, ↓reduceIte, Nat.reduceEqDiff]; rw [if_pos rfl]) | (refine AW.cond (b := false) ?_ ?_; simp only [ev, upd, ↓reduceIte, Nat.reduceEqDiff]; rw [if_neg Bool.false_ne_true]) | fail) <;> try simp only [go_sem, ↓reduceIte, reduceCtorEq, Nat.reduceLT, Nat.reduceEqDiff, Nat.reduceBEq, Nat.reduceAdd, Nat.reduceMul, Nat.reduceSub, Nat.reduceLeDiff, Int.reduceNeg, Int.reduceLT, Int.reduceLE, Int.reduceEq, Int.reduceAdd, Int.reduceToNat, h6, h1, get_last, hb, fA_at _ i _ hlt]))
        refine QC.mk (rRight_spec (i5 _ (List.getElem_mem hlt)) ⟨rfl, rfl⟩) ?_
        cases ht : textOk hd.files[i].1 with
        | false =>
          ((try simp only [go_sem, ↓reduceIte, reduceCtorEq, Nat.reduceLT, Nat.reduceEqDiff, Nat.reduceBEq, Nat.reduceAdd, Nat.reduceMul, Nat.reduceSub, Nat.reduceLeDiff, Int.reduceNeg, Int.reduceLT, Int.reduceLE, Int.reduceEq, Int.reduceAdd, Int.reduceToNat, h6, h1, get_last, hb, fA_at _ i _ hlt]); repeat ((first | refine AW.seq ?_ | refine AW.region env_ok ?_ | refine AW.region envR_ok ?_ | refine AW.skip ?_ | refine AW.block ?_ | refine AW.exit ?_ | refine AW.ret ?_ | (refine AW.cond (b := true) ?_ ?_; simp only [ev, upd, ↓reduceIte, Nat.reduceEqDiff]; rw [if_pos rfl]) | (refine AW.cond (b := false) ?_ ?_; simp only [ev, upd, ↓reduceIte, Nat.reduceEqDiff]; rw [if_neg Bool.false_ne_true]) | fail) <;> try simp only [go_sem, ↓reduceIte, reduceCtorEq, Nat.reduceLT, Nat.reduceEqDiff, Nat.reduceBEq, Nat.reduceAdd, Nat.reduceMul, Nat.reduceSub, Nat.reduceLeDiff, Int.reduceNeg, Int.reduceLT, Int.reduceLE, Int.reduceEq, Int.reduceAdd, Int.reduceToNat, h6, h1, get_last, hb, fA_at _ i _ hlt]))
          refine .inr ?_
          rw [cut1]
          exact hno fun c => by have := (c.2.2.2 _ (List.getElem_mem hlt)).1; rw [ht] at this; cases this
        | true =>
          by_cases d1 : hd.files[i].2 < 0
          · ((try simp only [go_sem, ↓reduceIte, reduceCtorEq, Nat.reduceLT, Nat.reduceEqDiff, Nat.reduceBEq, Nat.reduceAdd, Nat.reduceMul, Nat.reduceSub, Nat.reduceLeDiff, Int.reduceNeg, Int.reduceLT, Int.reduceLE, Int.reduceEq, Int.reduceAdd, Int.reduceToNat, h6, h1, get_last, hb, fA_at _ i _ hlt, d1]); repeat ((first | refine AW.seq ?_ | refine AW.region env_ok ?_ | refine AW.region envR_ok ?_ | refine AW.skip ?_ | refine AW.block ?_ | refine AW.exit ?_ | refine AW.ret ?_ | (refine AW.cond (b := true) ?_ ?_; simp only [ev, upd, ↓reduceIte, Nat.reduceEqDiff]; rw [if_pos rfl]) | (refine AW.cond (b := false) ?_ ?_; simp only [ev, upd, ↓reduceIte, Nat.reduceEqDiff]; rw [if_neg Bool.false_ne_true]) | fail) <;> try simp only [go_sem, ↓reduceIte, reduceCtorEq, Nat.reduceLT, Nat.reduceEqDiff, Nat.reduceBEq, Nat.reduceAdd, Nat.reduceMul, Nat.reduceSub, Nat.reduceLeDiff, Int.reduceNeg, Int.reduceLT, Int.reduceLE, Int.reduceEq, Int.reduceAdd, Int.reduceToNat, h6, h1, get_last, hb, fA_at _ i _ hlt, d1]))
            refine .inr ?_
            rw [cut1]
            exact hno fun c => by have := (c.2.2.2 _ (List.getElem_mem hlt)).2.1; omega
          by_cases d2 : hd.files[i].2 ≥ hd.dirs.length
          · ((try simp only [go_sem, ↓reduceIte, reduceCtorEq, Nat.reduceLT, Nat.reduceEqDiff, Nat.reduceBEq, Nat.reduceAdd, Nat.reduceMul, Nat.reduceSub, Nat.reduceLeDiff, Int.reduceNeg, Int.reduceLT, Int.reduceLE, Int.reduceEq, Int.reduceAdd, Int.reduceToNat, h6, h1, get_last, hb, fA_at _ i _ hlt, d1, d2]); repeat ((first | refine AW.seq ?_ | refine AW.region env_ok ?_ | refine AW.region envR_ok ?_ | refine AW.skip ?_ | refine AW.block ?_ | refine AW.exit ?_ | refine AW.ret ?_ | (refine AW.cond (b := true) ?_ ?_; simp only [ev, upd, ↓reduceIte, Nat.reduceEqDiff]; rw [if_pos rfl]) | (refine AW.cond (b := false) ?_ ?_; simp only [ev, upd, ↓reduceIte, Nat.reduceEqDiff]; rw [if_neg Bool.false_ne_true]) | fail) <;> try simp only [go_sem, ↓reduceIte, reduceCtorEq, Nat.reduceLT, Nat.reduceEqDiff, Nat.reduceBEq, Nat.reduceAdd, Nat.reduceMul, Nat.reduceSub, Nat.reduceLeDiff, Int.reduceNeg, Int.reduceLT, Int.reduceLE, Int.reduceEq, Int.reduceAdd, Int.reduceToNat, h6, h1, get_last, hb, fA_at _ i _ hlt, d1, d2]))
            refine .inr ?_
            rw [cut1]
            exact hno fun c => by have := (c.2.2.2 _ (List.getElem_mem hlt)).2.2; omega
          ((try simp only [go_sem, ↓reduceIte, reduceCtorEq, Nat.reduceLT, Nat.reduceEqDiff, Nat.reduceBEq, Nat.reduceAdd, Nat.reduceMul, Nat.reduceSub, Nat.reduceLeDiff, Int.reduceNeg, Int.reduceLT, Int.reduceLE, Int.reduceEq, Int.reduceAdd, Int.reduceToNat, h6, h1, get_last, hb, fA_at _ i _ hlt, d1, d2, ew2]); repeat ((first | refine AW.seq ?_ | refine AW.region env_ok ?_ | refine AW.region envR_ok ?_ | refine AW.skip ?_ | refine AW.block ?_ | refine AW.exit ?_ | refine AW.ret ?_ | (refine AW.cond (b := true) ?_ ?_; simp only [ev, upd, ↓reduceIte, Nat.reduceEqDiff]; rw [if_pos rfl]) | (refine AW.cond (b := false) ?_ ?_; simp only [ev, upd, ↓reduceIte, Nat.reduceEqDiff]; rw [if_neg Bool.false_ne_true]) | fail) <;> try simp only [go_sem, ↓reduceIte, reduceCtorEq, Nat.reduceLT, Nat.reduceEqDiff, Nat.reduceBEq, Nat.reduceAdd, Nat.reduceMul, Nat.reduceSub, Nat.reduceLeDiff, Int.reduceNeg, Int.reduceLT, Int.reduceLE, Int.reduceEq, Int.reduceAdd, Int.reduceToNat, h6, h1, get_last, hb, fA_at _ i _ hlt, d1, d2, ew2]))
          refine ⟨⟨i + 1, by omega, rfl, ?_⟩, by omega⟩
          intro f hf
          rw [List.take_succ_eq_append_getElem hlt] at hf
          rcases List.mem_append.1 hf with hf | hf
          · exact hz f hf
          · rw [List.mem_singleton.1 hf]; exact ⟨ht, by omega, by omega⟩
      · ((try simp only [go_sem, ↓reduceIte, reduceCtorEq, Nat.reduceLT, Nat.reduceEqDiff, Nat.reduceBEq, Nat.reduceAdd, Nat.reduceMul, Nat.reduceSub, Nat.reduceLeDiff, Int.reduceNeg, Int.reduceLT, Int.reduceLE, Int.reduceEq, Int.reduceAdd, Int.reduceToNat, h6, h1, get_last, e]); repeat ((first | refine AW.seq ?_ | refine AW.region env_ok ?_ | refine AW.region envR_ok ?_ | refine AW.skip ?_ | refine AW.block ?_ | refine AW.exit ?_ | refine AW.ret ?_ | (refine AW.cond (b := true) ?_ ?_; simp only [ev, upd, ↓reduceIte, Nat.reduceEqDiff]; rw [if_pos rfl]) | (refine AW.cond (b := false) ?_ ?_; simp only [ev, upd, ↓reduceIte, Nat.reduceEqDiff]; rw [if_neg Bool.false_ne_true]) | fail) <;> try simp only [go_sem, ↓reduceIte, reduceCtorEq, Nat.reduceLT, Nat.reduceEqDiff, Nat.reduceBEq, Nat.reduceAdd, Nat.reduceMul, Nat.reduceSub, Nat.reduceLeDiff, Int.reduceNeg, Int.reduceLT, Int.reduceLE, Int.reduceEq, Int.reduceAdd, Int.reduceToNat, h6, h1, get_last, e]))
        refine .inr ?_
        rw [cut1]
        rw [decide_eq_true (show hd.Right from ⟨hnums, hlens, hdirs, fun f hf => hz f (by rw [List.take_of_length_le (by omega)]; exact hf)⟩)] at h
        exact h
end
end Go.Ab
end

section
/- Package sindriref21: how great a header is. -/
namespace Go.Ab
open V Go.Proofs
set_option maxHeartbeats 4000000
set_option maxRecDepth 10000
set_option linter.unusedSimpArgs false
set_option linter.unusedVariables false
section
variable {hd : HD} {H : Heap} {Q : A → Heap → Prop}

theorem Bulk_spec {m : Int} (hm : 0 ≤ m ∧ m ≤ 1000000) (h : ∀ n : Int, (n ≤ m → hd.In) → Q (.int .i64 n) H) : AC Try.prog 7 [.agg hd.cells, .int .i64 m] H Q := by
  have hbig : Q (.int .i64 (m + 1)) H := h _ fun c => absurd c (by omega)
  have ewm : IntKind.i64.wrap (m + 1) = m + 1 := IntWalk.i64_in _ (by omega)
  refine AC.enter (E := env Try.prog 103 (fun _ => .copy) (fun _ => false)) env_ok Try.func7 rfl rfl rfl (by simp only [List.length_cons, List.length_nil]; exact of_decide_eq_true rfl) ?_
  by_cases c1 : (hd.lens.length : Int) > m
  case pos => ((try simp only [go_sem, ↓reduceIte, reduceCtorEq, Nat.reduceLT, Nat.reduceEqDiff, Nat.reduceBEq, Nat.reduceAdd, Nat.reduceMul, Nat.reduceSub, Nat.reduceLeDiff, Int.reduceNeg, Int.reduceLT, Int.reduceLE, Int.reduceEq, Int.reduceAdd, Int.reduceToNat, c1, get_last, ewm]); repeat ((first | refine AW.seq ?_ | refine AW.region env_ok ?_ | refine AW.region envR_ok ?_ | refine AW.skip ?_ | refine AW.block ?_ | refine AW.exit ?_ | refine AW.ret ?_ | (refine AW.cond (b := true) ?_ ?_; simp only [ev, upd, ↓reduceIte, Nat.reduceEqDiff]; rw [if_pos rfl]) | (refine AW.cond (b := false) ?_ ?_; simp only [ev, upd, ↓reduceIte, Nat.reduceEqDiff]; rw [if_neg Bool.false_ne_true]) | fail) <;> try simp only [go_sem, ↓reduceIte, reduceCtorEq, Nat.reduceLT, Nat.reduceEqDiff, Nat.reduceBEq, Nat.reduceAdd, Nat.reduceMul, Nat.reduceSub, Nat.reduceLeDiff, Int.reduceNeg, Int.reduceLT, Int.reduceLE, Int.reduceEq, Int.reduceAdd, Int.reduceToNat, c1, get_last, ewm])); exact .inr (by rw [cut1]; exact hbig)
  by_cases c2 : (hd.dirs.length : Int) > m
  case pos => ((try simp only [go_sem, ↓reduceIte, reduceCtorEq, Nat.reduceLT, Nat.reduceEqDiff, Nat.reduceBEq, Nat.reduceAdd, Nat.reduceMul, Nat.reduceSub, Nat.reduceLeDiff, Int.reduceNeg, Int.reduceLT, Int.reduceLE, Int.reduceEq, Int.reduceAdd, Int.reduceToNat, c1, c2, get_last, ewm]); repeat ((first | refine AW.seq ?_ | refine AW.region env_ok ?_ | refine AW.region envR_ok ?_ | refine AW.skip ?_ | refine AW.block ?_ | refine AW.exit ?_ | refine AW.ret ?_ | (refine AW.cond (b := true) ?_ ?_; simp only [ev, upd, ↓reduceIte, Nat.reduceEqDiff]; rw [if_pos rfl]) | (refine AW.cond (b := false) ?_ ?_; simp only [ev, upd, ↓reduceIte, Nat.reduceEqDiff]; rw [if_neg Bool.false_ne_true]) | fail) <;> try simp only [go_sem, ↓reduceIte, reduceCtorEq, Nat.reduceLT, Nat.reduceEqDiff, Nat.reduceBEq, Nat.reduceAdd, Nat.reduceMul, Nat.reduceSub, Nat.reduceLeDiff, Int.reduceNeg, Int.reduceLT, Int.reduceLE, Int.reduceEq, Int.reduceAdd, Int.reduceToNat, c1, c2, get_last, ewm])); exact .inr (by rw [cut1]; exact hbig)
  by_cases c3 : (hd.files.length : Int) > m
  case pos => ((try simp only [go_sem, ↓reduceIte, reduceCtorEq, Nat.reduceLT, Nat.reduceEqDiff, Nat.reduceBEq, Nat.reduceAdd, Nat.reduceMul, Nat.reduceSub, Nat.reduceLeDiff, Int.reduceNeg, Int.reduceLT, Int.reduceLE, Int.reduceEq, Int.reduceAdd, Int.reduceToNat, c1, c2, c3, get_last, ewm]); repeat ((first | refine AW.seq ?_ | refine AW.region env_ok ?_ | refine AW.region envR_ok ?_ | refine AW.skip ?_ | refine AW.block ?_ | refine AW.exit ?_ | refine AW.ret ?_ | (refine AW.cond (b := true) ?_ ?_; simp only [ev, upd, ↓reduceIte, Nat.reduceEqDiff]; rw [if_pos rfl]) | (refine AW.cond (b := false) ?_ ?_; simp only [ev, upd, ↓reduceIte, Nat.reduceEqDiff]; rw [if_neg Bool.false_ne_true]) | fail) <;> try simp only [go_sem, ↓reduceIte, reduceCtorEq, Nat.reduceLT, Nat.reduceEqDiff, Nat.reduceBEq, Nat.reduceAdd, Nat.reduceMul, Nat.reduceSub, Nat.reduceLeDiff, Int.reduceNeg, Int.reduceLT, Int.reduceLE, Int.reduceEq, Int.reduceAdd, Int.reduceToNat, c1, c2, c3, get_last, ewm])); exact .inr (by rw [cut1]; exact hbig)
  have ew1 : IntKind.i64.wrap ((hd.lens.length : Int) + hd.dirs.length) = hd.lens.length + hd.dirs.length := IntWalk.i64_in _ (by omega)
  have ew2 : IntKind.i64.wrap ((hd.lens.length : Int) + hd.dirs.length + hd.files.length) = hd.lens.length + hd.dirs.length + hd.files.length := IntWalk.i64_in _ (by omega)
  ((try simp only [go_sem, ↓reduceIte, reduceCtorEq, Nat.reduceLT, Nat.reduceEqDiff, Nat.reduceBEq, Nat.reduceAdd, Nat.reduceMul, Nat.reduceSub, Nat.reduceLeDiff, Int.reduceNeg, Int.reduceLT, Int.reduceLE, Int.reduceEq, Int.reduceAdd, Int.reduceToNat, c1, c2, c3, get_last, ew1, ew2]); repeat ((first | refine AW.seq ?_ | refine AW.region env_ok ?_ | refine AW.region envR_ok ?_ | refine AW.skip ?_ | refine AW.block ?_ | refine AW.exit ?_ | refine AW.ret ?_ | (refine AW.cond (b := true) ?_ ?_; simp only [ev, upd, ↓reduceIte, Nat.reduceEqDiff]; rw [if_pos rfl]) | (refine AW.cond (b := false) ?_ ?_; simp only [ev, upd, ↓reduceIte, Nat.reduceEqDiff]; rw [if_neg Bool.false_ne_true]) | fail) <;> try simp only [go_sem, ↓reduceIte, reduceCtorEq, Nat.reduceLT, Nat.reduceEqDiff, Nat.reduceBEq, Nat.reduceAdd, Nat.reduceMul, Nat.reduceSub, Nat.reduceLeDiff, Int.reduceNeg, Int.reduceLT, Int.reduceLE, Int.reduceEq, Int.reduceAdd, Int.reduceToNat, c1, c2, c3, get_last, ew1, ew2]))
  refine AW.loop (fun st => ∃ (i : Nat) (n : Int), i ≤ hd.dirs.length ∧ st.σ 6 = .int .i64 i ∧ st.σ 5 = .int .i64 n ∧ st.σ 1 = .int .i64 m ∧ -1 ≤ n ∧ n ≤ 4000000 ∧
      st.σ 2 = .ptr (some (H.length, 0)) ∧ (∀ d ∈ hd.dirs.take i, (d.size : Int) ≤ m) ∧ st.H = H ++ [.cells hd.cells])
    (fun st => match st.σ 6 with | .int _ i => hd.dirs.length - i.toNat | _ => 0) ⟨0, _, by omega, rfl, rfl, rfl, by omega, by omega, rfl, by simp, rfl⟩ ?_
  rintro ⟨σ, H2⟩ ⟨i, n, hi', h6, h5, h1, hn1, hn2, h2, hz, rfl⟩
  simp only at h6 h5 h1 h2
  by_cases e : (i : Int) < hd.dirs.length
  · have hlt : i < hd.dirs.length := by omega
    have hb : (0 : Int) ≤ i ∧ (i : Int) < hd.dirs.length := by omega
    have ew3 : IntKind.i64.wrap ((i : Int) + 1) = ((i + 1 : Nat) : Int) := IntWalk.i64_in _ (by omega)
    by_cases d1 : n > m
    · ((try simp only [go_sem, ↓reduceIte, reduceCtorEq, Nat.reduceLT, Nat.reduceEqDiff, Nat.reduceBEq, Nat.reduceAdd, Nat.reduceMul, Nat.reduceSub, Nat.reduceLeDiff, Int.reduceNeg, Int.reduceLT, Int.reduceLE, Int.reduceEq, Int.reduceAdd, Int.reduceToNat, h6, h5, h1, h2, get_last, e, d1, ewm]); repeat ((first | refine AW.seq ?_ | refine AW.region env_ok ?_ | refine AW.region envR_ok ?_ | refine AW.skip ?_ | refine AW.block ?_ | refine AW.exit ?_ | refine AW.ret ?_ | (refine AW.cond (b := true) ?_ ?_; simp only [ev, upd, ↓reduceIte, Nat.reduceEqDiff]; rw [if_pos rfl]) | (refine AW.cond (b := false) ?_ ?_; simp only [ev, upd, ↓reduceIte, Nat.reduceEqDiff]; rw [if_neg Bool.false_ne_true]) | fail) <;> try simp only [go_sem, ↓reduceIte, reduceCtorEq, Nat.reduceLT, Nat.reduceEqDiff, Nat.reduceBEq, Nat.reduceAdd, Nat.reduceMul, Nat.reduceSub, Nat.reduceLeDiff, Int.reduceNeg, Int.reduceLT, Int.reduceLE, Int.reduceEq, Int.reduceAdd, Int.reduceToNat, h6, h5, h1, h2, get_last, e, d1, ewm]))
      exact .inr (by rw [cut1]; exact hbig)
    by_cases d2 : (hd.dirs[i].size : Int) > m
    · ((try simp only [go_sem, ↓reduceIte, reduceCtorEq, Nat.reduceLT, Nat.reduceEqDiff, Nat.reduceBEq, Nat.reduceAdd, Nat.reduceMul, Nat.reduceSub, Nat.reduceLeDiff, Int.reduceNeg, Int.reduceLT, Int.reduceLE, Int.reduceEq, Int.reduceAdd, Int.reduceToNat, h6, h5, h1, h2, get_last, e, d1, d2, hb, tA_at _ i _ hlt, ewm]); repeat ((first | refine AW.seq ?_ | refine AW.region env_ok ?_ | refine AW.region envR_ok ?_ | refine AW.skip ?_ | refine AW.block ?_ | refine AW.exit ?_ | refine AW.ret ?_ | (refine AW.cond (b := true) ?_ ?_; simp only [ev, upd, ↓reduceIte, Nat.reduceEqDiff]; rw [if_pos rfl]) | (refine AW.cond (b := false) ?_ ?_; simp only [ev, upd, ↓reduceIte, Nat.reduceEqDiff]; rw [if_neg Bool.false_ne_true]) | fail) <;> try simp only [go_sem, ↓reduceIte, reduceCtorEq, Nat.reduceLT, Nat.reduceEqDiff, Nat.reduceBEq, Nat.reduceAdd, Nat.reduceMul, Nat.reduceSub, Nat.reduceLeDiff, Int.reduceNeg, Int.reduceLT, Int.reduceLE, Int.reduceEq, Int.reduceAdd, Int.reduceToNat, h6, h5, h1, h2, get_last, e, d1, d2, hb, tA_at _ i _ hlt, ewm]))
      exact .inr (by rw [cut1]; exact hbig)
    have ew4 : IntKind.i64.wrap (n + hd.dirs[i].size) = n + hd.dirs[i].size := IntWalk.i64_in _ (by omega)
    ((try simp only [go_sem, ↓reduceIte, reduceCtorEq, Nat.reduceLT, Nat.reduceEqDiff, Nat.reduceBEq, Nat.reduceAdd, Nat.reduceMul, Nat.reduceSub, Nat.reduceLeDiff, Int.reduceNeg, Int.reduceLT, Int.reduceLE, Int.reduceEq, Int.reduceAdd, Int.reduceToNat, h6, h5, h1, h2, get_last, e, d1, d2, hb, tA_at _ i _ hlt, ew3, ew4]); repeat ((first | refine AW.seq ?_ | refine AW.region env_ok ?_ | refine AW.region envR_ok ?_ | refine AW.skip ?_ | refine AW.block ?_ | refine AW.exit ?_ | refine AW.ret ?_ | (refine AW.cond (b := true) ?_ ?_; simp only [ev, upd, ↓reduceIte, Nat.reduceEqDiff]; rw [if_pos rfl]) | (refine AW.cond (b := false) ?_ ?_; simp only [ev, upd, ↓reduceIte, Nat.reduceEqDiff]; rw [if_neg Bool.false_ne_true]) | fail) <;> try simp only [go_sem, ↓reduceIte, reduceCtorEq, Nat.reduceLT, Nat.reduceEqDiff, Nat.reduceBEq, Nat.reduceAdd, Nat.reduceMul, Nat.reduceSub, Nat.reduceLeDiff, Int.reduceNeg, Int.reduceLT, Int.reduceLE, Int.reduceEq, Int.reduceAdd, Int.reduceToNat, h6, h5, h1, h2, get_last, e, d1, d2, hb, tA_at _ i _ hlt, ew3, ew4]))
    refine ⟨⟨i + 1, n + hd.dirs[i].size, by omega, rfl, rfl, by omega, by omega, ?_⟩, by omega⟩
    intro d hd'
    rw [List.take_succ_eq_append_getElem hlt] at hd'
    rcases List.mem_append.1 hd' with hd' | hd'
    · exact hz d hd'
    · rw [List.mem_singleton.1 hd']; omega
  · have hdirs : ∀ d ∈ hd.dirs, (d.size : Int) ≤ m := fun d hd' => hz d (by rw [List.take_of_length_le (by omega)]; exact hd')
    ((try simp only [go_sem, ↓reduceIte, reduceCtorEq, Nat.reduceLT, Nat.reduceEqDiff, Nat.reduceBEq, Nat.reduceAdd, Nat.reduceMul, Nat.reduceSub, Nat.reduceLeDiff, Int.reduceNeg, Int.reduceLT, Int.reduceLE, Int.reduceEq, Int.reduceAdd, Int.reduceToNat, h6, h5, h1, h2, get_last, e]); repeat ((first | refine AW.seq ?_ | refine AW.region env_ok ?_ | refine AW.region envR_ok ?_ | refine AW.skip ?_ | refine AW.block ?_ | refine AW.exit ?_ | refine AW.ret ?_ | (refine AW.cond (b := true) ?_ ?_; simp only [ev, upd, ↓reduceIte, Nat.reduceEqDiff]; rw [if_pos rfl]) | (refine AW.cond (b := false) ?_ ?_; simp only [ev, upd, ↓reduceIte, Nat.reduceEqDiff]; rw [if_neg Bool.false_ne_true]) | fail) <;> try simp only [go_sem, ↓reduceIte, reduceCtorEq, Nat.reduceLT, Nat.reduceEqDiff, Nat.reduceBEq, Nat.reduceAdd, Nat.reduceMul, Nat.reduceSub, Nat.reduceLeDiff, Int.reduceNeg, Int.reduceLT, Int.reduceLE, Int.reduceEq, Int.reduceAdd, Int.reduceToNat, h6, h5, h1, h2, get_last, e]))
    refine AW.loop (fun st => ∃ (i : Nat) (n : Int), i ≤ hd.files.length ∧ st.σ 7 = .int .i64 i ∧ st.σ 5 = .int .i64 n ∧ st.σ 1 = .int .i64 m ∧ -1 ≤ n ∧ n ≤ 4000000 ∧
        st.σ 2 = .ptr (some (H.length, 0)) ∧ (∀ d ∈ hd.files.take i, (d.1.size : Int) ≤ m) ∧ st.H = H ++ [.cells hd.cells])
      (fun st => match st.σ 7 with | .int _ i => hd.files.length - i.toNat | _ => 0) ⟨0, _, by omega, rfl, h5, h1, by omega, by omega, h2, by simp, rfl⟩ ?_
    rintro ⟨σ, H3⟩ ⟨i, n, hi', h7, h5, h1, hn1, hn2, h2, hz, rfl⟩
    simp only at h7 h5 h1 h2
    by_cases e : (i : Int) < hd.files.length
    · have hlt : i < hd.files.length := by omega
      have hb : (0 : Int) ≤ i ∧ (i : Int) < hd.files.length := by omega
      have ew3 : IntKind.i64.wrap ((i : Int) + 1) = ((i + 1 : Nat) : Int) := IntWalk.i64_in _ (by omega)
      by_cases d1 : n > m
      · ((try simp only [go_sem, ↓reduceIte, reduceCtorEq, Nat.reduceLT, Nat.reduceEqDiff, Nat.reduceBEq, Nat.reduceAdd, Nat.reduceMul, Nat.reduceSub, Nat.reduceLeDiff, Int.reduceNeg, Int.reduceLT, Int.reduceLE, Int.reduceEq, Int.reduceAdd, Int.reduceToNat, h7, h5, h1, h2, get_last, e, d1, ewm]); repeat ((first | refine AW.seq ?_ | refine AW.region env_ok ?_ | refine AW.region envR_ok ?_ | refine AW.skip ?_ | refine AW.block ?_ | refine AW.exit ?_ | refine AW.ret ?_ | (refine AW.cond (b := true) ?_ ?_; simp only [ev, upd, ↓reduceIte, Nat.reduceEqDiff]; rw [if_pos rfl]) | (refine AW.cond (b := false) ?_ ?_; simp only [ev, upd, ↓reduceIte, Nat.reduceEqDiff]; rw [if_neg Bool.false_ne_true]) | fail) <;> try simp only [go_sem, ↓reduceIte, reduceCtorEq, Nat.reduceLT, Nat.reduceEqDiff, Nat.reduceBEq, Nat.reduceAdd, Nat.reduceMul, Nat.reduceSub, Nat.reduceLeDiff, Int.reduceNeg, Int.reduceLT, Int.reduceLE, Int.reduceEq, Int.reduceAdd, Int.reduceToNat, h7, h5, h1, h2, get_last, e, d1, ewm]))
        exact .inr (by rw [cut1]; exact hbig)
      by_cases d2 : (hd.files[i].1.size : Int) > m
      · ((try simp only [go_sem, ↓reduceIte, reduceCtorEq, Nat.reduceLT, Nat.reduceEqDiff, Nat.reduceBEq, Nat.reduceAdd, Nat.reduceMul, Nat.reduceSub, Nat.reduceLeDiff, Int.reduceNeg, Int.reduceLT, Int.reduceLE, Int.reduceEq, Int.reduceAdd, Int.reduceToNat, h7, h5, h1, h2, get_last, e, d1, d2, hb, fA_at _ i _ hlt, ewm]); repeat ((first | refine AW.seq ?_ | refine AW.region env_ok ?_ | refine AW.region envR_ok ?_ | refine AW.skip ?_ | refine AW.block ?_ | refine AW.exit ?_ | refine AW.ret ?_ | (refine AW.cond (b := true) ?_ ?_; simp only [ev, upd, ↓reduceIte, Nat.reduceEqDiff]; rw [if_pos rfl]) | (refine AW.cond (b := false) ?_ ?_; simp only [ev, upd, ↓reduceIte, Nat.reduceEqDiff]; rw [if_neg Bool.false_ne_true]) | fail) <;> try simp only [go_sem, ↓reduceIte, reduceCtorEq, Nat.reduceLT, Nat.reduceEqDiff, Nat.reduceBEq, Nat.reduceAdd, Nat.reduceMul, Nat.reduceSub, Nat.reduceLeDiff, Int.reduceNeg, Int.reduceLT, Int.reduceLE, Int.reduceEq, Int.reduceAdd, Int.reduceToNat, h7, h5, h1, h2, get_last, e, d1, d2, hb, fA_at _ i _ hlt, ewm]))
        exact .inr (by rw [cut1]; exact hbig)
      have ew4 : IntKind.i64.wrap (n + hd.files[i].1.size) = n + hd.files[i].1.size := IntWalk.i64_in _ (by omega)
      ((try simp only [go_sem, ↓reduceIte, reduceCtorEq, Nat.reduceLT, Nat.reduceEqDiff, Nat.reduceBEq, Nat.reduceAdd, Nat.reduceMul, Nat.reduceSub, Nat.reduceLeDiff, Int.reduceNeg, Int.reduceLT, Int.reduceLE, Int.reduceEq, Int.reduceAdd, Int.reduceToNat, h7, h5, h1, h2, get_last, e, d1, d2, hb, fA_at _ i _ hlt, ew3, ew4]); repeat ((first | refine AW.seq ?_ | refine AW.region env_ok ?_ | refine AW.region envR_ok ?_ | refine AW.skip ?_ | refine AW.block ?_ | refine AW.exit ?_ | refine AW.ret ?_ | (refine AW.cond (b := true) ?_ ?_; simp only [ev, upd, ↓reduceIte, Nat.reduceEqDiff]; rw [if_pos rfl]) | (refine AW.cond (b := false) ?_ ?_; simp only [ev, upd, ↓reduceIte, Nat.reduceEqDiff]; rw [if_neg Bool.false_ne_true]) | fail) <;> try simp only [go_sem, ↓reduceIte, reduceCtorEq, Nat.reduceLT, Nat.reduceEqDiff, Nat.reduceBEq, Nat.reduceAdd, Nat.reduceMul, Nat.reduceSub, Nat.reduceLeDiff, Int.reduceNeg, Int.reduceLT, Int.reduceLE, Int.reduceEq, Int.reduceAdd, Int.reduceToNat, h7, h5, h1, h2, get_last, e, d1, d2, hb, fA_at _ i _ hlt, ew3, ew4]))
      refine ⟨⟨i + 1, n + hd.files[i].1.size, by omega, rfl, rfl, by omega, by omega, ?_⟩, by omega⟩
      intro d hd'
      rw [List.take_succ_eq_append_getElem hlt] at hd'
      rcases List.mem_append.1 hd' with hd' | hd'
      · exact hz d hd'
      · rw [List.mem_singleton.1 hd']; omega
    · have hfiles : ∀ d ∈ hd.files, (d.1.size : Int) ≤ m := fun d hd' => hz d (by rw [List.take_of_length_le (by omega)]; exact hd')
      ((try simp only [go_sem, ↓reduceIte, reduceCtorEq, Nat.reduceLT, Nat.reduceEqDiff, Nat.reduceBEq, Nat.reduceAdd, Nat.reduceMul, Nat.reduceSub, Nat.reduceLeDiff, Int.reduceNeg, Int.reduceLT, Int.reduceLE, Int.reduceEq, Int.reduceAdd, Int.reduceToNat, h7, h5, h1, h2, get_last, e]); repeat ((first | refine AW.seq ?_ | refine AW.region env_ok ?_ | refine AW.region envR_ok ?_ | refine AW.skip ?_ | refine AW.block ?_ | refine AW.exit ?_ | refine AW.ret ?_ | (refine AW.cond (b := true) ?_ ?_; simp only [ev, upd, ↓reduceIte, Nat.reduceEqDiff]; rw [if_pos rfl]) | (refine AW.cond (b := false) ?_ ?_; simp only [ev, upd, ↓reduceIte, Nat.reduceEqDiff]; rw [if_neg Bool.false_ne_true]) | fail) <;> try simp only [go_sem, ↓reduceIte, reduceCtorEq, Nat.reduceLT, Nat.reduceEqDiff, Nat.reduceBEq, Nat.reduceAdd, Nat.reduceMul, Nat.reduceSub, Nat.reduceLeDiff, Int.reduceNeg, Int.reduceLT, Int.reduceLE, Int.reduceEq, Int.reduceAdd, Int.reduceToNat, h7, h5, h1, h2, get_last, e]))
      refine .inr ?_
      rw [cut1]
      exact h n fun _ => ⟨by omega, by omega, by omega, fun d hd' => by have := hdirs d hd'; omega, fun f hf => by have := hfiles f hf; omega⟩
end
end Go.Ab
end

section
/- Packages linerun and sindriref22: rows, and the registers. -/
namespace Go.Ab
open V Go.Proofs
set_option maxHeartbeats 4000000
set_option maxRecDepth 10000
set_option linter.unusedSimpArgs false
set_option linter.unusedVariables false

/-- A row. -/
structure RW where
  addr : Int
  file : Int
  line : Int
  col : Int
  stmt : Bool
  blk : Bool
  pro : Bool
  epi : Bool
  stop : Bool
  isa : Int
  disc : Int
deriving DecidableEq
def RW.cells (r : RW) : List A := [.int .u64 r.addr, .int .i64 r.file, .int .i64 r.line, .int .i64 r.col, .bool r.stmt, .bool r.blk, .bool r.pro, .bool r.epi, .bool r.stop, .int .u64 r.isa, .int .u64 r.disc]
def rA (l : List RW) : List A := l.map fun r => .agg r.cells
theorem rw_flagless (r : RW) : flaglessL r.cells = true := rfl
theorem rw_low (r : RW) (n : Nat) : lowL n r.cells = true := rfl
theorem rw_solid (r : RW) : r.cells.all solid = true := rfl
theorem rw_len (r : RW) : r.cells.length = 11 := rfl
theorem rw_take (r : RW) : r.cells.take 11 = r.cells := rfl
theorem rw_strip (r : RW) : stripL r.cells = r.cells := rfl
theorem rw_share (r : RW) : shareL r.cells = r.cells := rfl
theorem rA_flagless (l : List RW) : flaglessL (rA l) = true := flagless_map _ (fun _ => rfl) l
theorem rA_low (n : Nat) (l : List RW) : lowL n (rA l) = true := low_map _ n (fun _ => rfl) l
theorem rA_uni (l : List RW) : Uni 11 (rA l) = true := uni_map _ 11 (fun _ => rfl) l
theorem rA_len (l : List RW) : (rA l).length = l.length := by simp [rA]
theorem rA_at (l : List RW) (i : Nat) (d : A) (h : i < l.length) : (rA l).getD i d = .agg l[i].cells := getD_map _ l i d h
theorem rA_strip (l : List RW) : stripL (rA l) = rA l := strip_map _ (fun _ => rfl) l
theorem rA_share (l : List RW) : shareL (rA l) = rA l := share_map _ (fun _ => rfl) l
theorem rA_snoc (l : List RW) (r : RW) : rA l ++ [.agg r.cells] = rA (l ++ [r]) := by simp [rA]
attribute [go_sem] rw_flagless rw_low rw_solid rw_len rw_take rw_strip rw_share rA_flagless rA_low rA_uni rA_len rA_strip rA_share rA_snoc

/-- The registers' cells: header, cursor, row, rows. -/
def mcells (hd : HD) (c : Nat) (r : RW) (v : A) : List A := hd.cells ++ (.ptr (some (c, 0)) :: (r.cells ++ [v]))
section
variable (hd : HD) (c : Nat) (r : RW) (v : A)
theorem mc_len : (mcells hd c r v).length = 24 := rfl
theorem mc_0 : (mcells hd c r v)[0]? = some (.bool hd.wide) := rfl
theorem mc_1 : (mcells hd c r v)[1]? = some (.bool hd.stmt) := rfl
theorem mc_2 : (mcells hd c r v)[2]? = some (.int .i64 hd.min) := rfl
theorem mc_3 : (mcells hd c r v)[3]? = some (.int .i64 hd.base) := rfl
theorem mc_4 : (mcells hd c r v)[4]? = some (.int .i64 hd.range) := rfl
theorem mc_5 : (mcells hd c r v)[5]? = some (.int .i64 hd.codes) := rfl
theorem mc_6 : (mcells hd c r v)[6]? = some (.sl (iA hd.lens) none ()) := rfl
theorem mc_11 : (mcells hd c r v)[11]? = some (.ptr (some (c, 0))) := rfl
theorem mc_12 : (mcells hd c r v)[12]? = some (.int .u64 r.addr) := rfl
theorem mc_13 : (mcells hd c r v)[13]? = some (.int .i64 r.file) := rfl
theorem mc_14 : (mcells hd c r v)[14]? = some (.int .i64 r.line) := rfl
theorem mc_15 : (mcells hd c r v)[15]? = some (.int .i64 r.col) := rfl
theorem mc_16 : (mcells hd c r v)[16]? = some (.bool r.stmt) := rfl
theorem mc_17 : (mcells hd c r v)[17]? = some (.bool r.blk) := rfl
theorem mc_18 : (mcells hd c r v)[18]? = some (.bool r.pro) := rfl
theorem mc_19 : (mcells hd c r v)[19]? = some (.bool r.epi) := rfl
theorem mc_20 : (mcells hd c r v)[20]? = some (.bool r.stop) := rfl
theorem mc_21 : (mcells hd c r v)[21]? = some (.int .u64 r.isa) := rfl
theorem mc_22 : (mcells hd c r v)[22]? = some (.int .u64 r.disc) := rfl
theorem mc_23 : (mcells hd c r v)[23]? = some v := rfl
theorem mc_hd : (mcells hd c r v).take 11 = hd.cells := rfl
theorem mc_row : ((mcells hd c r v).drop 12).take 11 = r.cells := rfl
theorem mp_12 (x : Int) : (mcells hd c r v).take 12 ++ [.int .u64 x] ++ (mcells hd c r v).drop 13 = mcells hd c { r with addr := x } v := rfl
theorem mp_13 (x : Int) : (mcells hd c r v).take 13 ++ [.int .i64 x] ++ (mcells hd c r v).drop 14 = mcells hd c { r with file := x } v := rfl
theorem mp_14 (x : Int) : (mcells hd c r v).take 14 ++ [.int .i64 x] ++ (mcells hd c r v).drop 15 = mcells hd c { r with line := x } v := rfl
theorem mp_15 (x : Int) : (mcells hd c r v).take 15 ++ [.int .i64 x] ++ (mcells hd c r v).drop 16 = mcells hd c { r with col := x } v := rfl
theorem mp_16 (x : Bool) : (mcells hd c r v).take 16 ++ [.bool x] ++ (mcells hd c r v).drop 17 = mcells hd c { r with stmt := x } v := rfl
theorem mp_17 (x : Bool) : (mcells hd c r v).take 17 ++ [.bool x] ++ (mcells hd c r v).drop 18 = mcells hd c { r with blk := x } v := rfl
theorem mp_18 (x : Bool) : (mcells hd c r v).take 18 ++ [.bool x] ++ (mcells hd c r v).drop 19 = mcells hd c { r with pro := x } v := rfl
theorem mp_19 (x : Bool) : (mcells hd c r v).take 19 ++ [.bool x] ++ (mcells hd c r v).drop 20 = mcells hd c { r with epi := x } v := rfl
theorem mp_20 (x : Bool) : (mcells hd c r v).take 20 ++ [.bool x] ++ (mcells hd c r v).drop 21 = mcells hd c { r with stop := x } v := rfl
theorem mp_21 (x : Int) : (mcells hd c r v).take 21 ++ [.int .u64 x] ++ (mcells hd c r v).drop 22 = mcells hd c { r with isa := x } v := rfl
theorem mp_22 (x : Int) : (mcells hd c r v).take 22 ++ [.int .u64 x] ++ (mcells hd c r v).drop 23 = mcells hd c { r with disc := x } v := rfl
theorem mp_row (q : RW) : (mcells hd c r v).take 12 ++ q.cells ++ (mcells hd c r v).drop 23 = mcells hd c q v := rfl
theorem mp_out (u : A) : (mcells hd c r v).take 23 ++ [u] ++ (mcells hd c r v).drop 24 = mcells hd c r u := rfl
theorem mp_one : ((mcells hd c r v).drop 23).take 1 = [v] := rfl
end
attribute [go_sem] mc_len mc_0 mc_1 mc_2 mc_3 mc_4 mc_5 mc_6 mc_11 mc_12 mc_13 mc_14 mc_15 mc_16 mc_17 mc_18 mc_19 mc_20 mc_21 mc_22 mc_23 mc_hd mc_row mp_12 mp_13 mp_14 mp_15 mp_16 mp_17 mp_18 mp_19 mp_20 mp_21 mp_22 mp_row mp_out mp_one

theorem hd_take' (hd : HD) (l : List A) : (hd.cells ++ l).take 11 = hd.cells := rfl

/-! two objects, and three -/
section
variable (H : Heap) (a b c x : Ob Unit)
theorem two_0 : (H ++ [a, b])[H.length]? = some a := by simp
theorem two_1 : (H ++ [a, b])[H.length + 1]? = some b := by simp
theorem two_s0 : (H ++ [a, b]).set H.length x = H ++ [x, b] := by rw [List.set_append_right _ _ (Nat.le_refl _), Nat.sub_self]; rfl
theorem two_s1 : (H ++ [a, b]).set (H.length + 1) x = H ++ [a, x] := by rw [List.set_append_right _ _ (by omega), Nat.add_sub_cancel_left]; rfl
theorem two_l : (H ++ [a, b]).length = H.length + 2 := by simp
theorem two_t : (H ++ [a, b]).take H.length = H := by simp
theorem two_t2 : (H ++ [a, b]).take (H.length + 2) = H ++ [a, b] := List.take_of_length_le (by simp)
theorem three : H ++ [a, b] ++ [c] = H ++ [a, b, c] := by simp
theorem three_0 : (H ++ [a, b, c])[H.length]? = some a := by simp
theorem three_1 : (H ++ [a, b, c])[H.length + 1]? = some b := by simp
theorem three_2 : (H ++ [a, b, c])[H.length + 2]? = some c := by simp
theorem three_s0 : (H ++ [a, b, c]).set H.length x = H ++ [x, b, c] := by rw [List.set_append_right _ _ (Nat.le_refl _), Nat.sub_self]; rfl
theorem three_s1 : (H ++ [a, b, c]).set (H.length + 1) x = H ++ [a, x, c] := by rw [List.set_append_right _ _ (by omega), Nat.add_sub_cancel_left]; rfl
theorem three_s2 : (H ++ [a, b, c]).set (H.length + 2) x = H ++ [a, b, x] := by rw [List.set_append_right _ _ (by omega), Nat.add_sub_cancel_left]; rfl
theorem three_t : (H ++ [a, b, c]).take (H.length + 2) = H ++ [a, b] := by rw [List.take_append, Nat.add_sub_cancel_left, List.take_of_length_le (by omega)]; rfl
theorem low_two : decide (H.length < H.length + 1) = true := by simp
end
attribute [go_sem] two_0 two_1 two_s0 two_s1 two_l two_t two_t2 three three_0 three_1 three_2 three_s0 three_s1 three_s2 three_t

/-- The registers, and the rows that were told. -/
structure MS where
  s : CS
  row : RW
  out : List RW

def u64w (x : Int) : Int := IntKind.u64.wrap x
def i64w (x : Int) : Int := IntKind.i64.wrap x

def RW.start (hd : HD) : RW := ⟨0, 1, 1, 0, hd.stmt, false, false, false, false, 0, 0⟩
def MS.fail (m : MS) (e : Int) : MS := { m with s := m.s.fail e }
def MS.tell (m : MS) : MS :=
  if m.s.err = 0 then (if m.out.length = 2000 then m.fail 3 else { m with out := m.out ++ [m.row], row := { m.row with disc := 0, blk := false, pro := false, epi := false } }) else m
def MS.by (hd : HD) (m : MS) (n : Int) : MS := { m with row := { m.row with addr := IntKind.u64.wrap (m.row.addr + IntKind.u64.wrap (n * IntKind.u64.wrap hd.min)) } }
def MS.line (m : MS) (n : Int) : MS :=
  if n > 2147483647 ∨ n < -2147483647 ∨ IntKind.i64.wrap (m.row.line + n) < 0 ∨ IntKind.i64.wrap (m.row.line + n) > 2147483647 then m.fail 48
  else { m with row := { m.row with line := IntKind.i64.wrap (m.row.line + n) } }
/-- A number that is at most 2147483647. -/
def CS.small (s : CS) : Int × CS := if s.uleb.1 > 2147483647 then (0, s.uleb.2.fail 48) else (IntKind.i64.wrap s.uleb.1, s.uleb.2)
def CS.stop (s : CS) : Int := if s.left > 0 then 2 else s.err

def MS.long (hd : HD) (m : MS) : MS :=
  let n := m.s.uleb.1
  let b := (m.s.uleb.2.take n).1
  let m2 : MS := { m with s := (m.s.uleb.2.take n).2 }
  if m2.s.err ≠ 0 then m2 else
  let code := (b.getD 0 0).toNat
  if n = 0 ∨ (code = 1 ∧ n ≠ 1) ∨ (code = 2 ∧ n ≠ 9) then m2.fail 48 else
  if code = 1 then { ({ m2 with row := { m2.row with stop := true } } : MS).tell with row := RW.start hd } else
  if code = 2 then { m2 with row := { m2.row with addr := (le ((CS.mk b 1 0).take 8).1 : Nat) } } else
  if code = 4 then
    let m3 : MS := { m2 with row := { m2.row with disc := ((CS.mk b 1 0).uleb.1 : Nat) } }
    if (CS.mk b 1 0).uleb.2.stop ≠ 0 then m3.fail 48 else m3
  else m2

def ulebs : Nat → CS → CS
  | 0, s => s
  | k + 1, s => ulebs k s.uleb.2

def MS.special (hd : HD) (m : MS) (code : Int) : MS :=
  let n := IntKind.i64.wrap (code - hd.codes)
  ((m.by hd (IntKind.u64.wrap (IntKind.i64.wrap (n.tdiv hd.range)))).line (IntKind.i64.wrap (hd.base + n.tmod hd.range))).tell

def MS.standard (hd : HD) (m : MS) (code : Nat) : MS :=
  match code with
  | 0 => m.long hd
  | 1 => m.tell
  | 2 => ({ m with s := m.s.uleb.2 } : MS).by hd m.s.uleb.1
  | 3 => ({ m with s := m.s.sleb.2 } : MS).line m.s.sleb.1
  | 4 => { m with s := m.s.small.2, row := { m.row with file := m.s.small.1 } }
  | 5 => { m with s := m.s.small.2, row := { m.row with col := m.s.small.1 } }
  | 6 => { m with row := { m.row with stmt := !m.row.stmt } }
  | 7 => { m with row := { m.row with blk := true } }
  | 8 => m.by hd (IntKind.u64.wrap (IntKind.i64.wrap ((IntKind.i64.wrap (255 - hd.codes)).tdiv hd.range)))
  | 9 => { m with s := (m.s.take 2).2, row := { m.row with addr := IntKind.u64.wrap (m.row.addr + (le (m.s.take 2).1 : Nat)) } }
  | 10 => { m with row := { m.row with pro := true } }
  | 11 => { m with row := { m.row with epi := true } }
  | 12 => { m with s := m.s.uleb.2, row := { m.row with isa := m.s.uleb.1 } }
  | c => { m with s := ulebs (hd.lens.getD (c - 1) 0).toNat m.s }

/-- One operation. -/
def MS.step (hd : HD) (m : MS) : MS :=
  let code := le (m.s.take 1).1
  let m1 : MS := { m with s := (m.s.take 1).2 }
  if (code : Int) ≥ hd.codes ∧ (code : Int) > 0 then m1.special hd code else m1.standard hd code

/-! the cursors stay in order -/
theorem CS.Ok.uleb {s : CS} (h : s.Ok) : s.uleb.2.Ok := by
  have h7 := (seven_ok 10 s h).1
  unfold CS.uleb
  split
  · rename_i l s2 e
    rw [e] at h7
    split
    · exact h7.fail (by omega) (by omega)
    · exact h7
  · rename_i s2 e
    rw [e] at h7
    exact h7
theorem CS.uleb_b {s : CS} (h : s.Ok) : s.uleb.2.b = s.b := by
  have h7 := (seven_ok 10 s h).2.1
  unfold CS.uleb
  split
  · rename_i l s2 e
    rw [e] at h7
    split
    · rw [CS.fail_b]; exact h7
    · exact h7
  · rename_i s2 e
    rw [e] at h7
    exact h7
theorem CS.Ok.sleb {s : CS} (h : s.Ok) : s.sleb.2.Ok := by
  have h7 := (seven_ok 10 s h).1
  unfold CS.sleb
  split
  · rename_i l s2 e
    rw [e] at h7
    split
    · exact h7.fail (by omega) (by omega)
    · exact h7
  · rename_i s2 e
    rw [e] at h7
    exact h7
theorem CS.sleb_b {s : CS} (h : s.Ok) : s.sleb.2.b = s.b := by
  have h7 := (seven_ok 10 s h).2.1
  unfold CS.sleb
  split
  · rename_i l s2 e
    rw [e] at h7
    split
    · rw [CS.fail_b]; exact h7
    · exact h7
  · rename_i s2 e
    rw [e] at h7
    exact h7
theorem CS.uleb_lt {s : CS} (h : s.Ok) : s.uleb.1 < 18446744073709551616 := by
  have h7 := (seven_ok 10 s h).2.2
  unfold CS.uleb
  split
  · rename_i l s2 e
    rw [e] at h7
    obtain ⟨k1, k2, k3⟩ := h7 l rfl
    split
    · simp
    · rename_i hn
      by_cases hl : l.length = 10
      · have h1 : l.getD 9 0 ≤ 1 := by
          rcases Nat.lt_or_ge 1 (l.getD 9 0) with h | h
          · exact absurd ⟨hl, h⟩ hn
          · exact h
        have h2 : l = l.take 9 ++ [l.getD 9 0] := by
          have : l.drop 9 = [l.getD 9 0] := by
            rw [List.drop_eq_getElem_cons (by omega), List.drop_of_length_le (by omega)]
            simp [show 9 < l.length by omega]
          rw [← this, List.take_append_drop]
        have h3 := val7_append (l.take 9) [l.getD 9 0]
        rw [← h2] at h3
        have h4 := val7_lt (l.take 9) (fun x hx => k3 x (List.mem_of_mem_take hx))
        have h5 : (l.take 9).length = 9 := by simp; omega
        rw [h5] at h3 h4
        simp only [val7] at h3
        simp only
        omega
      · have h4 := val7_lt l k3
        have h5 : 128 ^ l.length ≤ 128 ^ 9 := Nat.pow_le_pow_right (by omega) (by omega)
        simp only
        omega
  · simp
end Go.Ab
end

section
/- Line programs that are run: what every step keeps. -/
namespace Go.Ab
open V Go.Proofs
set_option maxHeartbeats 4000000
set_option maxRecDepth 10000
set_option linter.unusedSimpArgs false
set_option linter.unusedVariables false

/-- The cursor t is the cursor s, later. -/
def CLe (s t : CS) : Prop := t.Ok ∧ t.b = s.b ∧ t.left ≤ s.left
theorem CLe.refl {s : CS} (h : s.Ok) : CLe s s := ⟨h, rfl, Nat.le_refl _⟩
theorem CLe.trans {s t u : CS} (h : CLe s t) (h' : CLe t u) : CLe s u := ⟨h'.1, h'.2.1.trans h.2.1, Nat.le_trans h'.2.2 h.2.2⟩
theorem cle_take {s : CS} (h : s.Ok) (n : Nat) : CLe s (s.take n).2 := by
  refine ⟨h.take n, CS.take_b s n, ?_⟩
  unfold CS.take CS.left
  split
  · split
    · first | (simp only; omega) | (simp only; split <;> omega)
    · simp
  · simp
theorem take_less {s : CS} (h : s.left > 0) : (s.take 1).2.left < s.left ∧ (s.take 1).2.err = 0 := by
  unfold CS.left at h
  split at h
  · rename_i e
    have e2 : (s.take 1) = ((s.b.take (s.pos + 1)).drop s.pos, { s with pos := s.pos + 1 }) := by unfold CS.take; rw [if_pos e, if_pos (by omega)]
    rw [e2]
    unfold CS.left
    simp only [e, if_true, and_true]
    omega
  · omega
theorem cle_fail {s : CS} (h : s.Ok) {e : Int} (h0 : 0 ≤ e) (h1 : e < 1000000) : CLe s (s.fail e) := by
  refine ⟨h.fail h0 h1, CS.fail_b s e, ?_⟩
  unfold CS.fail CS.left
  split
  · simp only; split <;> omega
  · omega
theorem cle_seven : ∀ (k : Nat) {s : CS}, s.Ok → CLe s (seven k s).2 := by
  intro k
  induction k with
  | zero => intro s h; exact cle_fail h (by omega) (by omega)
  | succ k ih =>
    intro s h
    have h1 := cle_take h 1
    have h2 := h1.trans (ih h1.1)
    unfold seven
    simp only
    split
    · split
      · exact h1
      · split
        · rename_i q; rw [q] at h2; exact h2
        · rename_i q; rw [q] at h2; exact h2
    · exact h1
theorem cle_uleb {s : CS} (h : s.Ok) : CLe s s.uleb.2 := by
  have h7 := cle_seven 10 h
  unfold CS.uleb
  split
  · rename_i l s2 e
    rw [e] at h7
    split
    · exact h7.trans (cle_fail h7.1 (by omega) (by omega))
    · exact h7
  · rename_i s2 e
    rw [e] at h7
    exact h7
theorem cle_sleb {s : CS} (h : s.Ok) : CLe s s.sleb.2 := by
  have h7 := cle_seven 10 h
  unfold CS.sleb
  split
  · rename_i l s2 e
    rw [e] at h7
    split
    · exact h7.trans (cle_fail h7.1 (by omega) (by omega))
    · exact h7
  · rename_i s2 e
    rw [e] at h7
    exact h7
theorem cle_small {s : CS} (h : s.Ok) : CLe s s.small.2 := by
  have h1 := cle_uleb h
  unfold CS.small
  split
  · exact h1.trans (cle_fail h1.1 (by omega) (by omega))
  · exact h1
theorem cle_ulebs : ∀ (k : Nat) {s : CS}, s.Ok → CLe s (ulebs k s) := by
  intro k
  induction k with
  | zero => intro s h; exact CLe.refl h
  | succ k ih => intro s h; exact (cle_uleb h).trans (ih (cle_uleb h).1)

def MLe (m t : MS) : Prop := CLe m.s t.s ∧ (m.out.length ≤ 2000 → t.out.length ≤ 2000)
theorem MLe.trans {m t u : MS} (h : MLe m t) (h' : MLe t u) : MLe m u := ⟨h.1.trans h'.1, fun k => h'.2 (h.2 k)⟩
theorem mle_s {m : MS} {t : CS} {r : RW} (h : CLe m.s t) : MLe m { m with s := t, row := r } := ⟨h, fun k => k⟩
theorem mle_tell {m : MS} (h : m.s.Ok) : MLe m m.tell := by
  unfold MS.tell
  split
  · split
    · exact ⟨cle_fail h (by omega) (by omega), fun k => k⟩
    · refine ⟨CLe.refl h, fun k => ?_⟩
      simp only [List.length_append, List.length_cons, List.length_nil]
      omega
  · exact ⟨CLe.refl h, fun k => k⟩
theorem mle_line {m : MS} (h : m.s.Ok) (n : Int) : MLe m (m.line n) := by
  unfold MS.line
  split
  · exact ⟨cle_fail h (by omega) (by omega), fun k => k⟩
  · exact ⟨CLe.refl h, fun k => k⟩
theorem mle_long {hd : HD} {m : MS} (h : m.s.Ok) : MLe m (m.long hd) := by
  have h1 := cle_uleb h
  have h2 := h1.trans (cle_take h1.1 m.s.uleb.1)
  unfold MS.long
  simp only
  split
  · exact mle_s h2
  · split
    · exact ⟨h2.trans (cle_fail h2.1 (by omega) (by omega)), fun k => k⟩
    · split
      · have h3 : MLe m { m with s := (m.s.uleb.2.take m.s.uleb.1).2, row := { m.row with stop := true } } := mle_s h2
        have h4 := mle_tell (m := { m with s := (m.s.uleb.2.take m.s.uleb.1).2, row := { m.row with stop := true } }) h2.1
        exact ⟨h2.trans h4.1, h4.2⟩
      · split
        · exact mle_s h2
        · split
          · split
            · exact ⟨h2.trans (cle_fail h2.1 (by omega) (by omega)), fun k => k⟩
            · exact mle_s h2
          · exact mle_s h2
theorem mle_standard {hd : HD} {m : MS} (h : m.s.Ok) (c : Nat) : MLe m (m.standard hd c) := by
  unfold MS.standard
  split
  · exact mle_long h
  · exact mle_tell h
  · exact mle_s (cle_uleb h)
  · have h1 := cle_sleb h
    have h2 := mle_line (m := { m with s := m.s.sleb.2 }) h1.1 m.s.sleb.1
    exact ⟨h1.trans h2.1, h2.2⟩
  · exact mle_s (cle_small h)
  · exact mle_s (cle_small h)
  · exact mle_s (CLe.refl h)
  · exact mle_s (CLe.refl h)
  · exact mle_s (CLe.refl h)
  · exact mle_s (cle_take h 2)
  · exact mle_s (CLe.refl h)
  · exact mle_s (CLe.refl h)
  · exact mle_s (cle_uleb h)
  · exact mle_s (cle_ulebs _ h)
theorem mle_special {hd : HD} {m : MS} (h : m.s.Ok) (c : Int) : MLe m (m.special hd c) := by
  unfold MS.special
  simp only
  have h1 : MLe m (m.by hd (IntKind.u64.wrap (IntKind.i64.wrap ((IntKind.i64.wrap (c - hd.codes)).tdiv hd.range)))) := mle_s (CLe.refl h)
  have h2 := mle_line (m := m.by hd (IntKind.u64.wrap (IntKind.i64.wrap ((IntKind.i64.wrap (c - hd.codes)).tdiv hd.range)))) h (IntKind.i64.wrap (hd.base + (IntKind.i64.wrap (c - hd.codes)).tmod hd.range))
  exact (h1.trans h2).trans (mle_tell h2.1.1)
theorem mle_step {hd : HD} {m : MS} (h : m.s.Ok) : MLe { m with s := (m.s.take 1).2 } (m.step hd) := by
  unfold MS.step
  simp only
  have h1 := cle_take h 1
  split
  · exact mle_special (m := { m with s := (m.s.take 1).2 }) h1.1 _
  · exact mle_standard (m := { m with s := (m.s.take 1).2 }) h1.1 _

/-- So many steps, as long as bytes are left. -/
def runs (hd : HD) : Nat → MS → MS
  | 0, m => m
  | n + 1, m => if m.s.left > 0 then runs hd n (m.step hd) else m

theorem step_less {hd : HD} {m : MS} (h : m.s.Ok) (hl : m.s.left > 0) : (m.step hd).s.left < m.s.left ∧ (m.step hd).s.Ok ∧ (m.step hd).s.b = m.s.b ∧ (m.out.length ≤ 2000 → (m.step hd).out.length ≤ 2000) := by
  have h1 := mle_step (hd := hd) h
  have h2 := take_less hl
  exact ⟨Nat.lt_of_le_of_lt h1.1.2.2 h2.1, h1.1.1, h1.1.2.1.trans (CS.take_b _ _), h1.2⟩

/-- More steps than bytes are left make no difference. -/
theorem runs_enough {hd : HD} : ∀ (n : Nat) {m : MS}, m.s.Ok → m.s.left ≤ n → ∀ k, runs hd (n + k) m = runs hd n m := by
  intro n
  induction n with
  | zero => intro m h hl k; cases k with | zero => rfl | succ k => simp only [Nat.zero_add, runs]; rw [if_neg (by omega)]
  | succ n ih =>
    intro m h hl k
    rw [show n + 1 + k = n + k + 1 by omega]
    simp only [runs]
    split
    · rename_i hl'
      have := step_less (hd := hd) h hl'
      exact ih this.2.1 (by omega) k
    · rfl
theorem runs_step {hd : HD} {n : Nat} {m : MS} (h : m.s.Ok) (hl : m.s.left > 0) (hn : m.s.left ≤ n) : runs hd n m = runs hd n (m.step hd) := by
  obtain ⟨k, rfl⟩ : ∃ k, n = k + 1 := ⟨n - 1, by omega⟩
  have := step_less (hd := hd) h hl
  rw [show runs hd (k + 1) m = runs hd k (m.step hd) by simp only [runs]; rw [if_pos hl]]
  exact (runs_enough k this.2.1 (by omega) 1).symm
theorem runs_none {hd : HD} {n : Nat} {m : MS} (hl : m.s.left = 0) : runs hd n m = m := by
  cases n with
  | zero => rfl
  | succ n => simp only [runs]; rw [if_neg (by omega)]

def MS.init (hd : HD) (b : List UInt8) : MS := ⟨⟨b, 0, 0⟩, RW.start hd, []⟩
def lastBad (l : List RW) : Bool := match l.getLast? with | some r => !r.stop | none => false
open Classical in
/-- What a line program tells. -/
noncomputable def runR (hd : HD) (b : List UInt8) : List RW × Int :=
  if hd.Right then
    (if (runs hd b.length (MS.init hd b)).s.err ≠ 0 then ([], (runs hd b.length (MS.init hd b)).s.err)
     else if lastBad (runs hd b.length (MS.init hd b)).out = true then ([], 48) else ((runs hd b.length (MS.init hd b)).out, 0))
  else ([], 2)
theorem lastBad_spec (l : List RW) (h : 0 < l.length) : lastBad l = !(l[l.length - 1]).stop := by
  unfold lastBad
  rw [List.getLast?_eq_getElem?, List.getElem?_eq_getElem (by omega)]
end Go.Ab
end
