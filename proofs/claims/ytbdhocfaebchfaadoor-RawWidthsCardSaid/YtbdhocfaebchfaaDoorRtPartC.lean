/- Contracts of the functions that the law reaches. -/
import Derived.Test.YtbdhocfaebchfaaDoorRtPartB
set_option linter.all false
set_option linter.unusedSimpArgs false
set_option linter.unusedVariables false
set_option linter.unnecessarySimpa false
section
/- Package raw: values that are read. -/
namespace Go.Ab
open V Go.Proofs
set_option maxHeartbeats 4000000
set_option maxRecDepth 10000
set_option linter.unusedSimpArgs false
set_option linter.unusedVariables false

/-- A value. -/
structure RV where
  form : Int
  u : Nat
  s : Int
  b : List UInt8
  t : ByteArray
def RV.cells (r : RV) : List A := [.int .i64 r.form, .int .u64 r.u, .int .i64 r.s, .sl (bA r.b) none (), .str r.t]
def RV.zero (f : Int) : RV := ⟨f, 0, 0, [], ⟨#[]⟩⟩
def rawVal (s : CS) (f i : Int) (w : Bool) : RV × CS :=
  if f = 25 then ({ RV.zero f with u := 1 }, s)
  else if f = 33 then ({ RV.zero f with s := i }, s)
  else if f = 13 then ({ RV.zero f with s := s.sleb.1 }, s.sleb.2)
  else if kd f = 5 then ({ RV.zero f with t := s.text.1 }, s.text.2)
  else if f = 30 then ({ RV.zero f with b := (s.take 16).1 }, (s.take 16).2)
  else if kd f = 9 ∨ kd f = 10 then
    ({ RV.zero f with b := ((if (s.num (szf f) w).1 > 65536 then (s.num (szf f) w).2.fail 3 else (s.num (szf f) w).2).take (s.num (szf f) w).1).1 }, ((if (s.num (szf f) w).1 > 65536 then (s.num (szf f) w).2.fail 3 else (s.num (szf f) w).2).take (s.num (szf f) w).1).2)
  else ({ RV.zero f with u := (s.num (szf f) w).1 }, (s.num (szf f) w).2)
theorem CS.Ok.rawVal {s : CS} (h : s.Ok) (f i : Int) (w : Bool) : (rawVal s f i w).2.Ok := by
  unfold Go.Ab.rawVal
  split; · exact h
  split; · exact h
  split; · exact h.sleb
  split; · exact h.text
  split; · exact h.take _
  split
  · refine CS.Ok.take ?_ _
    split
    · exact (h.num _ _).fail (by omega) (by omega)
    · exact h.num _ _
  · exact h.num _ _
theorem rawVal_b {s : CS} (h : s.Ok) (f i : Int) (w : Bool) : (rawVal s f i w).2.b = s.b := by
  unfold rawVal
  split; · rfl
  split; · rfl
  split; · exact s.sleb_b h
  split; · exact s.text_b
  split; · exact s.take_b _
  split
  · rw [CS.take_b]
    split
    · rw [CS.fail_b]; exact s.num_b h _ _
    · exact s.num_b h _ _
  · exact s.num_b h _ _
theorem rawVal_err {s : CS} (h : s.err ≠ 0) (f i : Int) (w : Bool) : (rawVal s f i w).2 = s := by
  unfold rawVal
  split; · rfl
  split; · rfl
  split; · rw [s.sleb_err h]
  split; · rw [s.text_err h]
  split; · rw [s.take_err h]
  split
  · rw [s.num_err h]
    simp only
    rw [if_neg (by omega), s.take_err h]
  · rw [s.num_err h]

section
variable {p : Nat} {s : CS} {H : Heap} {Q : A → Heap → Prop}
theorem block16 (hb : s.b.length < 140737488355328) (hs : s.Ok) (hp : H[p]? = some (.cells s.cur)) (h : Q (.sl (bA (s.take 16).1) none ()) (H.set p (.cells (s.take 16).2.cur))) :
    AC Tryd.prog 47 [.ptr (some (p, 0)), .int .u64 16] H Q := by
  have := block_spec (n := 16) (Q := Q) (by omega) hb hs hp (by rw [if_neg (by omega)]; exact h)
  exact this
theorem take_spec {at_ f i : Int} {w : Bool} (hs : s.Ok) (hb : s.b.length < 140737488355328) (hp : H[p]? = some (.cells s.cur))
    (h : Q (.agg (rawVal s f i w).1.cells) (H.set p (.cells (rawVal s f i w).2.cur))) :
    AC Tryd.prog 24 [.ptr (some (p, 0)), .agg [.int .i64 at_, .int .i64 f, .int .i64 i], .bool w] H Q := by
  have hin := fun Z => in_get (x := .cells s.cur) (H := H) (p := p) Z hp
  have his := fun Z y => in_set (x := .cells s.cur) (H := H) (p := p) Z y hp
  have hsg := fun Z y => sin_get (x := .cells s.cur) (H := H) (p := p) Z y hp
  have hss := fun Z y z => sin_set (x := .cells s.cur) (H := H) (p := p) Z y z hp
  refine AC.enter (E := env Tryd.prog 72 (fun _ => .copy) (fun _ => false)) env_ok Tryd.func24 rfl rfl rfl (by simp only [List.length_cons, List.length_nil]; exact of_decide_eq_true rfl) ?_
  ((try first | refine walk_aw env_ok (none) ?_ | refine walk_aw envR_ok (none) ?_); try simp -implicitDefEqProofs (maxSteps := 1000000) only [go_sem, ↓reduceIte, reduceCtorEq, Nat.reduceLT, Nat.reduceEqDiff, Nat.reduceBEq, Nat.reduceAdd, Nat.reduceMul, Nat.reduceSub, Nat.reduceLeDiff, Int.reduceNeg, Int.reduceLT, Int.reduceLE, Int.reduceEq, Int.reduceAdd, Int.reduceToNat])
  refine of_spec ?_
  by_cases e1 : f = 25
  · rw [rawVal, if_pos e1, set_same hp] at h
    ((try first | refine walk_aw env_ok (none) ?_ | refine walk_aw envR_ok (none) ?_); try simp -implicitDefEqProofs (maxSteps := 1000000) only [go_sem, ↓reduceIte, reduceCtorEq, Nat.reduceLT, Nat.reduceEqDiff, Nat.reduceBEq, Nat.reduceAdd, Nat.reduceMul, Nat.reduceSub, Nat.reduceLeDiff, Int.reduceNeg, Int.reduceLT, Int.reduceLE, Int.reduceEq, Int.reduceAdd, Int.reduceToNat, e1])
    subst e1
    exact .inr h
  rw [rawVal, if_neg e1] at h
  by_cases e2 : f = 33
  · rw [if_pos e2, set_same hp] at h
    ((try first | refine walk_aw env_ok (none) ?_ | refine walk_aw envR_ok (none) ?_); try simp -implicitDefEqProofs (maxSteps := 1000000) only [go_sem, ↓reduceIte, reduceCtorEq, Nat.reduceLT, Nat.reduceEqDiff, Nat.reduceBEq, Nat.reduceAdd, Nat.reduceMul, Nat.reduceSub, Nat.reduceLeDiff, Int.reduceNeg, Int.reduceLT, Int.reduceLE, Int.reduceEq, Int.reduceAdd, Int.reduceToNat, e1, e2])
    subst e2
    exact .inr h
  rw [if_neg e2] at h
  by_cases e3 : f = 13
  · rw [if_pos e3] at h
    ((try first | refine walk_aw env_ok (none) ?_ | refine walk_aw envR_ok (none) ?_); try simp -implicitDefEqProofs (maxSteps := 1000000) only [go_sem, ↓reduceIte, reduceCtorEq, Nat.reduceLT, Nat.reduceEqDiff, Nat.reduceBEq, Nat.reduceAdd, Nat.reduceMul, Nat.reduceSub, Nat.reduceLeDiff, Int.reduceNeg, Int.reduceLT, Int.reduceLE, Int.reduceEq, Int.reduceAdd, Int.reduceToNat, e1, e2, e3])
    refine S_spec hs (hin _) ?_
    ((try first | refine walk_aw env_ok (none) ?_ | refine walk_aw envR_ok (none) ?_); try simp -implicitDefEqProofs (maxSteps := 1000000) only [go_sem, ↓reduceIte, reduceCtorEq, Nat.reduceLT, Nat.reduceEqDiff, Nat.reduceBEq, Nat.reduceAdd, Nat.reduceMul, Nat.reduceSub, Nat.reduceLeDiff, Int.reduceNeg, Int.reduceLT, Int.reduceLE, Int.reduceEq, Int.reduceAdd, Int.reduceToNat, his])
    subst e3
    exact .inr h
  rw [if_neg e3] at h
  by_cases e4 : kd f = 5
  · rw [if_pos e4] at h
    ((try first | refine walk_aw env_ok (none) ?_ | refine walk_aw envR_ok (none) ?_); try simp -implicitDefEqProofs (maxSteps := 1000000) only [go_sem, ↓reduceIte, reduceCtorEq, Nat.reduceLT, Nat.reduceEqDiff, Nat.reduceBEq, Nat.reduceAdd, Nat.reduceMul, Nat.reduceSub, Nat.reduceLeDiff, Int.reduceNeg, Int.reduceLT, Int.reduceLE, Int.reduceEq, Int.reduceAdd, Int.reduceToNat, e1, e2, e3, e4])
    refine cText_spec hs hb (hin _) ?_
    ((try first | refine walk_aw env_ok (none) ?_ | refine walk_aw envR_ok (none) ?_); try simp -implicitDefEqProofs (maxSteps := 1000000) only [go_sem, ↓reduceIte, reduceCtorEq, Nat.reduceLT, Nat.reduceEqDiff, Nat.reduceBEq, Nat.reduceAdd, Nat.reduceMul, Nat.reduceSub, Nat.reduceLeDiff, Int.reduceNeg, Int.reduceLT, Int.reduceLE, Int.reduceEq, Int.reduceAdd, Int.reduceToNat, his])
    exact .inr h
  rw [if_neg e4] at h
  by_cases e5 : f = 30
  · rw [if_pos e5] at h
    ((try first | refine walk_aw env_ok (none) ?_ | refine walk_aw envR_ok (none) ?_); try simp -implicitDefEqProofs (maxSteps := 1000000) only [go_sem, ↓reduceIte, reduceCtorEq, Nat.reduceLT, Nat.reduceEqDiff, Nat.reduceBEq, Nat.reduceAdd, Nat.reduceMul, Nat.reduceSub, Nat.reduceLeDiff, Int.reduceNeg, Int.reduceLT, Int.reduceLE, Int.reduceEq, Int.reduceAdd, Int.reduceToNat, e1, e2, e3, e4, e5, show kd 30 = 9 from rfl])
    subst e5
    refine block16 hb hs (hin _) ?_
    ((try first | refine walk_aw env_ok (none) ?_ | refine walk_aw envR_ok (none) ?_); try simp -implicitDefEqProofs (maxSteps := 1000000) only [go_sem, ↓reduceIte, reduceCtorEq, Nat.reduceLT, Nat.reduceEqDiff, Nat.reduceBEq, Nat.reduceAdd, Nat.reduceMul, Nat.reduceSub, Nat.reduceLeDiff, Int.reduceNeg, Int.reduceLT, Int.reduceLE, Int.reduceEq, Int.reduceAdd, Int.reduceToNat, his])
    exact .inr h
  rw [if_neg e5] at h
  by_cases e6 : kd f = 9 ∨ kd f = 10
  · rw [if_pos e6] at h
    have hok := hs.num (szf f) w
    have hnb := s.num_b hs (szf f) w
    have hlt := s.num_lt hs (szf f) w
    rcases e6 with e7 | e7
    · ((try first | refine walk_aw env_ok (none) ?_ | refine walk_aw envR_ok (none) ?_); try simp -implicitDefEqProofs (maxSteps := 1000000) only [go_sem, ↓reduceIte, reduceCtorEq, Nat.reduceLT, Nat.reduceEqDiff, Nat.reduceBEq, Nat.reduceAdd, Nat.reduceMul, Nat.reduceSub, Nat.reduceLeDiff, Int.reduceNeg, Int.reduceLT, Int.reduceLE, Int.reduceEq, Int.reduceAdd, Int.reduceToNat, e1, e2, e3, e4, e5, e7])
      refine number_spec hs (hin _) ?_
      ((try first | refine walk_aw env_ok (none) ?_ | refine walk_aw envR_ok (none) ?_); try simp -implicitDefEqProofs (maxSteps := 1000000) only [go_sem, ↓reduceIte, reduceCtorEq, Nat.reduceLT, Nat.reduceEqDiff, Nat.reduceBEq, Nat.reduceAdd, Nat.reduceMul, Nat.reduceSub, Nat.reduceLeDiff, Int.reduceNeg, Int.reduceLT, Int.reduceLE, Int.reduceEq, Int.reduceAdd, Int.reduceToNat, his])
      refine block_spec hlt (by rw [hnb]; exact hb) hok (hsg _ _) ?_
      ((try first | refine walk_aw env_ok (none) ?_ | refine walk_aw envR_ok (none) ?_); try simp -implicitDefEqProofs (maxSteps := 1000000) only [go_sem, ↓reduceIte, reduceCtorEq, Nat.reduceLT, Nat.reduceEqDiff, Nat.reduceBEq, Nat.reduceAdd, Nat.reduceMul, Nat.reduceSub, Nat.reduceLeDiff, Int.reduceNeg, Int.reduceLT, Int.reduceLE, Int.reduceEq, Int.reduceAdd, Int.reduceToNat, hss])
      exact .inr h
    · have e8 : ¬ kd f = 9 := by omega
      ((try first | refine walk_aw env_ok (none) ?_ | refine walk_aw envR_ok (none) ?_); try simp -implicitDefEqProofs (maxSteps := 1000000) only [go_sem, ↓reduceIte, reduceCtorEq, Nat.reduceLT, Nat.reduceEqDiff, Nat.reduceBEq, Nat.reduceAdd, Nat.reduceMul, Nat.reduceSub, Nat.reduceLeDiff, Int.reduceNeg, Int.reduceLT, Int.reduceLE, Int.reduceEq, Int.reduceAdd, Int.reduceToNat, e1, e2, e3, e4, e5, e8, e7])
      refine number_spec hs (hin _) ?_
      ((try first | refine walk_aw env_ok (none) ?_ | refine walk_aw envR_ok (none) ?_); try simp -implicitDefEqProofs (maxSteps := 1000000) only [go_sem, ↓reduceIte, reduceCtorEq, Nat.reduceLT, Nat.reduceEqDiff, Nat.reduceBEq, Nat.reduceAdd, Nat.reduceMul, Nat.reduceSub, Nat.reduceLeDiff, Int.reduceNeg, Int.reduceLT, Int.reduceLE, Int.reduceEq, Int.reduceAdd, Int.reduceToNat, his])
      refine block_spec hlt (by rw [hnb]; exact hb) hok (hsg _ _) ?_
      ((try first | refine walk_aw env_ok (none) ?_ | refine walk_aw envR_ok (none) ?_); try simp -implicitDefEqProofs (maxSteps := 1000000) only [go_sem, ↓reduceIte, reduceCtorEq, Nat.reduceLT, Nat.reduceEqDiff, Nat.reduceBEq, Nat.reduceAdd, Nat.reduceMul, Nat.reduceSub, Nat.reduceLeDiff, Int.reduceNeg, Int.reduceLT, Int.reduceLE, Int.reduceEq, Int.reduceAdd, Int.reduceToNat, hss])
      exact .inr h
  · rw [if_neg e6] at h
    have e7 : ¬ kd f = 9 := fun hc => e6 (.inl hc)
    have e8 : ¬ kd f = 10 := fun hc => e6 (.inr hc)
    ((try first | refine walk_aw env_ok (none) ?_ | refine walk_aw envR_ok (none) ?_); try simp -implicitDefEqProofs (maxSteps := 1000000) only [go_sem, ↓reduceIte, reduceCtorEq, Nat.reduceLT, Nat.reduceEqDiff, Nat.reduceBEq, Nat.reduceAdd, Nat.reduceMul, Nat.reduceSub, Nat.reduceLeDiff, Int.reduceNeg, Int.reduceLT, Int.reduceLE, Int.reduceEq, Int.reduceAdd, Int.reduceToNat, e1, e2, e3, e4, e5, e7, e8])
    refine number_spec hs (hin _) ?_
    ((try first | refine walk_aw env_ok (none) ?_ | refine walk_aw envR_ok (none) ?_); try simp -implicitDefEqProofs (maxSteps := 1000000) only [go_sem, ↓reduceIte, reduceCtorEq, Nat.reduceLT, Nat.reduceEqDiff, Nat.reduceBEq, Nat.reduceAdd, Nat.reduceMul, Nat.reduceSub, Nat.reduceLeDiff, Int.reduceNeg, Int.reduceLT, Int.reduceLE, Int.reduceEq, Int.reduceAdd, Int.reduceToNat, his])
    exact .inr h

/-- A value of a form, or of the form that stands ahead of it. -/
def formOf (s : CS) (f : Int) : Int := if f = 22 then (if s.uleb.1 < 45 ∧ s.uleb.1 ≠ 33 then (s.uleb.1 : Int) else 0) else f
def formSt (s : CS) (f : Int) : CS := if f = 22 then s.uleb.2 else s
def rawTake (s : CS) (f i : Int) (w : Bool) : RV × CS :=
  if (if kd (formOf s f) = 0 then (formSt s f).fail 41 else formSt s f).err = 0 then
    (if (rawVal (if kd (formOf s f) = 0 then (formSt s f).fail 41 else formSt s f) (formOf s f) i w).2.err = 0 then rawVal (if kd (formOf s f) = 0 then (formSt s f).fail 41 else formSt s f) (formOf s f) i w
     else (RV.zero 0, (rawVal (if kd (formOf s f) = 0 then (formSt s f).fail 41 else formSt s f) (formOf s f) i w).2))
  else (RV.zero 0, if kd (formOf s f) = 0 then (formSt s f).fail 41 else formSt s f)

theorem rawCells_flag (r : RV) : flaglessL r.cells = true := by simp [RV.cells, flaglessL, flagless, bA_flagless]
theorem rawCells_len (r : RV) : r.cells.length = 5 := rfl
theorem rawCells_solid (r : RV) : r.cells.all solid = true := rfl
theorem rawCells_low (n : Nat) (r : RV) : lowL n r.cells = true := by simp [RV.cells, lowL, V.low, bA_low]
theorem rawCells_0 (r : RV) : r.cells[0]? = some (.int .i64 r.form) := rfl
theorem rawCells_1 (r : RV) : r.cells[1]? = some (.int .u64 r.u) := rfl
theorem rawCells_2 (r : RV) : r.cells[2]? = some (.int .i64 r.s) := rfl
theorem rawCells_3 (r : RV) : r.cells[3]? = some (.sl (bA r.b) none ()) := rfl
theorem rawCells_4 (r : RV) : r.cells[4]? = some (.str r.t) := rfl
theorem rawCells_take (r : RV) : r.cells.take 5 = r.cells := rfl
theorem rawCells_drop (r : RV) : r.cells.drop 5 = [] := rfl
theorem rawCells_app (r : RV) : r.cells ++ [] = r.cells := rfl
theorem rawCells_strip (r : RV) : stripL r.cells = r.cells := by simp [RV.cells, stripL, V.strip, bA_strip]
attribute [go_sem] rawCells_flag rawCells_len rawCells_solid rawCells_low rawCells_0 rawCells_1 rawCells_2 rawCells_3 rawCells_4 rawCells_take rawCells_drop rawCells_strip

theorem Take_spec {at_ f i : Int} {w : Bool} (hs : s.Ok) (hb : s.b.length < 140737488355328) (hp : H[p]? = some (.cells s.cur))
    (h : Q (.agg (rawTake s f i w).1.cells) (H.set p (.cells (rawTake s f i w).2.cur))) :
    AC Tryd.prog 9 [.ptr (some (p, 0)), .agg [.int .i64 at_, .int .i64 f, .int .i64 i], .bool w] H Q := by
  have hin := fun Z => in_get (x := .cells s.cur) (H := H) (p := p) Z hp
  have his := fun Z y => in_set (x := .cells s.cur) (H := H) (p := p) Z y hp
  have hsg := fun Z y => sin_get (x := .cells s.cur) (H := H) (p := p) Z y hp
  have hss := fun Z y z => sin_set (x := .cells s.cur) (H := H) (p := p) Z y z hp
  refine AC.strip (E := env Tryd.prog 0 (fun _ => .copy) (fun _ => false)) env_ok ?_
  refine AC.enter (E := env Tryd.prog 43 (fun _ => .copy) (fun _ => false)) env_ok Tryd.func9 rfl rfl rfl (by simp only [List.length_cons, List.length_nil]; exact of_decide_eq_true rfl) ?_
  ((try first | refine walk_aw env_ok (none) ?_ | refine walk_aw envR_ok (none) ?_); try simp -implicitDefEqProofs (maxSteps := 1000000) only [go_sem, ↓reduceIte, reduceCtorEq, Nat.reduceLT, Nat.reduceEqDiff, Nat.reduceBEq, Nat.reduceAdd, Nat.reduceMul, Nat.reduceSub, Nat.reduceLeDiff, Int.reduceNeg, Int.reduceLT, Int.reduceLE, Int.reduceEq, Int.reduceAdd, Int.reduceToNat])
  by_cases e1 : f = 22
  · have hlt := s.uleb_lt hs
    have hok := hs.uleb
    have hub := s.uleb_b hs
    ((try first | refine walk_aw env_ok (none) ?_ | refine walk_aw envR_ok (none) ?_); try simp -implicitDefEqProofs (maxSteps := 1000000) only [go_sem, ↓reduceIte, reduceCtorEq, Nat.reduceLT, Nat.reduceEqDiff, Nat.reduceBEq, Nat.reduceAdd, Nat.reduceMul, Nat.reduceSub, Nat.reduceLeDiff, Int.reduceNeg, Int.reduceLT, Int.reduceLE, Int.reduceEq, Int.reduceAdd, Int.reduceToNat, e1])
    refine U_spec hs (hin _) ?_
    by_cases c : s.uleb.1 < 45 ∧ s.uleb.1 ≠ 33
    · have c1 : (s.uleb.1 : Int) < 45 := by omega
      have c2 : ¬ (s.uleb.1 : Int) = 33 := by omega
      rw [rawTake, show formOf s f = s.uleb.1 by rw [formOf, if_pos e1, if_pos c], show formSt s f = s.uleb.2 from if_pos e1] at h
      ((try first | refine walk_aw env_ok (none) ?_ | refine walk_aw envR_ok (none) ?_); try simp -implicitDefEqProofs (maxSteps := 1000000) (disch := omega) only [go_sem, ↓reduceIte, reduceCtorEq, Nat.reduceLT, Nat.reduceEqDiff, Nat.reduceBEq, Nat.reduceAdd, Nat.reduceMul, Nat.reduceSub, Nat.reduceLeDiff, Int.reduceNeg, Int.reduceLT, Int.reduceLE, Int.reduceEq, Int.reduceAdd, Int.reduceToNat, IntWalk.i64_in, IntWalk.u64_in, IntWalk.u8_in, if_pos, if_neg, Bool.and_eq_true, decide_eq_true_eq, his, c1, c2])
      refine Kind_spec ?_
      by_cases k0 : kd (s.uleb.1 : Int) = 0
      · simp only [if_pos k0] at h
        ((try first | refine walk_aw env_ok (none) ?_ | refine walk_aw envR_ok (none) ?_); try simp -implicitDefEqProofs (maxSteps := 1000000) only [go_sem, ↓reduceIte, reduceCtorEq, Nat.reduceLT, Nat.reduceEqDiff, Nat.reduceBEq, Nat.reduceAdd, Nat.reduceMul, Nat.reduceSub, Nat.reduceLeDiff, Int.reduceNeg, Int.reduceLT, Int.reduceLE, Int.reduceEq, Int.reduceAdd, Int.reduceToNat, k0, his, hss])
        refine Fail_spec (by first | exact hin _ | exact hsg _ _) ?_
        ((try first | refine walk_aw env_ok (none) ?_ | refine walk_aw envR_ok (none) ?_); try simp -implicitDefEqProofs (maxSteps := 1000000) only [go_sem, ↓reduceIte, reduceCtorEq, Nat.reduceLT, Nat.reduceEqDiff, Nat.reduceBEq, Nat.reduceAdd, Nat.reduceMul, Nat.reduceSub, Nat.reduceLeDiff, Int.reduceNeg, Int.reduceLT, Int.reduceLE, Int.reduceEq, Int.reduceAdd, Int.reduceToNat, his, hss])
        refine Err_spec (hsg _ _) ?_
        have ne : ¬ (s.uleb.2.fail 41).err = 0 := by rw [CS.fail]; split <;> simp_all
        rw [if_neg ne] at h
        ((try first | refine walk_aw env_ok (none) ?_ | refine walk_aw envR_ok (none) ?_); try simp -implicitDefEqProofs (maxSteps := 1000000) only [go_sem, ↓reduceIte, reduceCtorEq, Nat.reduceLT, Nat.reduceEqDiff, Nat.reduceBEq, Nat.reduceAdd, Nat.reduceMul, Nat.reduceSub, Nat.reduceLeDiff, Int.reduceNeg, Int.reduceLT, Int.reduceLE, Int.reduceEq, Int.reduceAdd, Int.reduceToNat, ne])
        exact .inr h
      · simp only [if_neg k0] at h
        ((try first | refine walk_aw env_ok (none) ?_ | refine walk_aw envR_ok (none) ?_); try simp -implicitDefEqProofs (maxSteps := 1000000) only [go_sem, ↓reduceIte, reduceCtorEq, Nat.reduceLT, Nat.reduceEqDiff, Nat.reduceBEq, Nat.reduceAdd, Nat.reduceMul, Nat.reduceSub, Nat.reduceLeDiff, Int.reduceNeg, Int.reduceLT, Int.reduceLE, Int.reduceEq, Int.reduceAdd, Int.reduceToNat, k0])
        refine Err_spec (by first | exact hin _ | exact hsg _ _) ?_
        by_cases e : s.uleb.2.err = 0
        · rw [if_pos e] at h
          ((try first | refine walk_aw env_ok (none) ?_ | refine walk_aw envR_ok (none) ?_); try simp -implicitDefEqProofs (maxSteps := 1000000) only [go_sem, ↓reduceIte, reduceCtorEq, Nat.reduceLT, Nat.reduceEqDiff, Nat.reduceBEq, Nat.reduceAdd, Nat.reduceMul, Nat.reduceSub, Nat.reduceLeDiff, Int.reduceNeg, Int.reduceLT, Int.reduceLE, Int.reduceEq, Int.reduceAdd, Int.reduceToNat, e])
          refine take_spec hok (by rw [hub]; exact hb) (by first | exact hin _ | exact hsg _ _) ?_
          ((try first | refine walk_aw env_ok (none) ?_ | refine walk_aw envR_ok (none) ?_); try simp -implicitDefEqProofs (maxSteps := 1000000) only [go_sem, ↓reduceIte, reduceCtorEq, Nat.reduceLT, Nat.reduceEqDiff, Nat.reduceBEq, Nat.reduceAdd, Nat.reduceMul, Nat.reduceSub, Nat.reduceLeDiff, Int.reduceNeg, Int.reduceLT, Int.reduceLE, Int.reduceEq, Int.reduceAdd, Int.reduceToNat, his, hss])
          refine Err_spec (hsg _ _) ?_
          by_cases e' : (rawVal s.uleb.2 (s.uleb.1 : Int) i w).2.err = 0
          · rw [if_pos e'] at h
            ((try first | refine walk_aw env_ok (none) ?_ | refine walk_aw envR_ok (none) ?_); try simp -implicitDefEqProofs (maxSteps := 1000000) only [go_sem, ↓reduceIte, reduceCtorEq, Nat.reduceLT, Nat.reduceEqDiff, Nat.reduceBEq, Nat.reduceAdd, Nat.reduceMul, Nat.reduceSub, Nat.reduceLeDiff, Int.reduceNeg, Int.reduceLT, Int.reduceLE, Int.reduceEq, Int.reduceAdd, Int.reduceToNat, e'])
            exact .inr h
          · rw [if_neg e'] at h
            ((try first | refine walk_aw env_ok (none) ?_ | refine walk_aw envR_ok (none) ?_); try simp -implicitDefEqProofs (maxSteps := 1000000) only [go_sem, ↓reduceIte, reduceCtorEq, Nat.reduceLT, Nat.reduceEqDiff, Nat.reduceBEq, Nat.reduceAdd, Nat.reduceMul, Nat.reduceSub, Nat.reduceLeDiff, Int.reduceNeg, Int.reduceLT, Int.reduceLE, Int.reduceEq, Int.reduceAdd, Int.reduceToNat, e'])
            exact .inr h
        · rw [if_neg e] at h
          ((try first | refine walk_aw env_ok (none) ?_ | refine walk_aw envR_ok (none) ?_); try simp -implicitDefEqProofs (maxSteps := 1000000) only [go_sem, ↓reduceIte, reduceCtorEq, Nat.reduceLT, Nat.reduceEqDiff, Nat.reduceBEq, Nat.reduceAdd, Nat.reduceMul, Nat.reduceSub, Nat.reduceLeDiff, Int.reduceNeg, Int.reduceLT, Int.reduceLE, Int.reduceEq, Int.reduceAdd, Int.reduceToNat, e])
          skip
          exact .inr h
    · rw [rawTake, show formOf s f = 0 by rw [formOf, if_pos e1, if_neg c], show formSt s f = s.uleb.2 from if_pos e1] at h
      by_cases c1 : (s.uleb.1 : Int) < 45
      · have c2 : (s.uleb.1 : Int) = 33 := by omega
        ((try first | refine walk_aw env_ok (none) ?_ | refine walk_aw envR_ok (none) ?_); try simp -implicitDefEqProofs (maxSteps := 1000000) (disch := omega) only [go_sem, ↓reduceIte, reduceCtorEq, Nat.reduceLT, Nat.reduceEqDiff, Nat.reduceBEq, Nat.reduceAdd, Nat.reduceMul, Nat.reduceSub, Nat.reduceLeDiff, Int.reduceNeg, Int.reduceLT, Int.reduceLE, Int.reduceEq, Int.reduceAdd, Int.reduceToNat, IntWalk.i64_in, IntWalk.u64_in, IntWalk.u8_in, if_pos, if_neg, Bool.and_eq_true, decide_eq_true_eq, his, c1, c2])
        refine Kind_spec ?_
        by_cases k0 : kd 0 = 0
        · simp only [if_pos k0] at h
          ((try first | refine walk_aw env_ok (none) ?_ | refine walk_aw envR_ok (none) ?_); try simp -implicitDefEqProofs (maxSteps := 1000000) only [go_sem, ↓reduceIte, reduceCtorEq, Nat.reduceLT, Nat.reduceEqDiff, Nat.reduceBEq, Nat.reduceAdd, Nat.reduceMul, Nat.reduceSub, Nat.reduceLeDiff, Int.reduceNeg, Int.reduceLT, Int.reduceLE, Int.reduceEq, Int.reduceAdd, Int.reduceToNat, k0, his, hss])
          refine Fail_spec (by first | exact hin _ | exact hsg _ _) ?_
          ((try first | refine walk_aw env_ok (none) ?_ | refine walk_aw envR_ok (none) ?_); try simp -implicitDefEqProofs (maxSteps := 1000000) only [go_sem, ↓reduceIte, reduceCtorEq, Nat.reduceLT, Nat.reduceEqDiff, Nat.reduceBEq, Nat.reduceAdd, Nat.reduceMul, Nat.reduceSub, Nat.reduceLeDiff, Int.reduceNeg, Int.reduceLT, Int.reduceLE, Int.reduceEq, Int.reduceAdd, Int.reduceToNat, his, hss])
          refine Err_spec (hsg _ _) ?_
          have ne : ¬ (s.uleb.2.fail 41).err = 0 := by rw [CS.fail]; split <;> simp_all
          rw [if_neg ne] at h
          ((try first | refine walk_aw env_ok (none) ?_ | refine walk_aw envR_ok (none) ?_); try simp -implicitDefEqProofs (maxSteps := 1000000) only [go_sem, ↓reduceIte, reduceCtorEq, Nat.reduceLT, Nat.reduceEqDiff, Nat.reduceBEq, Nat.reduceAdd, Nat.reduceMul, Nat.reduceSub, Nat.reduceLeDiff, Int.reduceNeg, Int.reduceLT, Int.reduceLE, Int.reduceEq, Int.reduceAdd, Int.reduceToNat, ne])
          exact .inr h
        · simp only [if_neg k0] at h
          ((try first | refine walk_aw env_ok (none) ?_ | refine walk_aw envR_ok (none) ?_); try simp -implicitDefEqProofs (maxSteps := 1000000) only [go_sem, ↓reduceIte, reduceCtorEq, Nat.reduceLT, Nat.reduceEqDiff, Nat.reduceBEq, Nat.reduceAdd, Nat.reduceMul, Nat.reduceSub, Nat.reduceLeDiff, Int.reduceNeg, Int.reduceLT, Int.reduceLE, Int.reduceEq, Int.reduceAdd, Int.reduceToNat, k0])
          refine Err_spec (by first | exact hin _ | exact hsg _ _) ?_
          by_cases e : s.uleb.2.err = 0
          · rw [if_pos e] at h
            ((try first | refine walk_aw env_ok (none) ?_ | refine walk_aw envR_ok (none) ?_); try simp -implicitDefEqProofs (maxSteps := 1000000) only [go_sem, ↓reduceIte, reduceCtorEq, Nat.reduceLT, Nat.reduceEqDiff, Nat.reduceBEq, Nat.reduceAdd, Nat.reduceMul, Nat.reduceSub, Nat.reduceLeDiff, Int.reduceNeg, Int.reduceLT, Int.reduceLE, Int.reduceEq, Int.reduceAdd, Int.reduceToNat, e])
            refine take_spec hok (by rw [hub]; exact hb) (by first | exact hin _ | exact hsg _ _) ?_
            ((try first | refine walk_aw env_ok (none) ?_ | refine walk_aw envR_ok (none) ?_); try simp -implicitDefEqProofs (maxSteps := 1000000) only [go_sem, ↓reduceIte, reduceCtorEq, Nat.reduceLT, Nat.reduceEqDiff, Nat.reduceBEq, Nat.reduceAdd, Nat.reduceMul, Nat.reduceSub, Nat.reduceLeDiff, Int.reduceNeg, Int.reduceLT, Int.reduceLE, Int.reduceEq, Int.reduceAdd, Int.reduceToNat, his, hss])
            refine Err_spec (hsg _ _) ?_
            by_cases e' : (rawVal s.uleb.2 0 i w).2.err = 0
            · rw [if_pos e'] at h
              ((try first | refine walk_aw env_ok (none) ?_ | refine walk_aw envR_ok (none) ?_); try simp -implicitDefEqProofs (maxSteps := 1000000) only [go_sem, ↓reduceIte, reduceCtorEq, Nat.reduceLT, Nat.reduceEqDiff, Nat.reduceBEq, Nat.reduceAdd, Nat.reduceMul, Nat.reduceSub, Nat.reduceLeDiff, Int.reduceNeg, Int.reduceLT, Int.reduceLE, Int.reduceEq, Int.reduceAdd, Int.reduceToNat, e'])
              exact .inr h
            · rw [if_neg e'] at h
              ((try first | refine walk_aw env_ok (none) ?_ | refine walk_aw envR_ok (none) ?_); try simp -implicitDefEqProofs (maxSteps := 1000000) only [go_sem, ↓reduceIte, reduceCtorEq, Nat.reduceLT, Nat.reduceEqDiff, Nat.reduceBEq, Nat.reduceAdd, Nat.reduceMul, Nat.reduceSub, Nat.reduceLeDiff, Int.reduceNeg, Int.reduceLT, Int.reduceLE, Int.reduceEq, Int.reduceAdd, Int.reduceToNat, e'])
              exact .inr h
          · rw [if_neg e] at h
            ((try first | refine walk_aw env_ok (none) ?_ | refine walk_aw envR_ok (none) ?_); try simp -implicitDefEqProofs (maxSteps := 1000000) only [go_sem, ↓reduceIte, reduceCtorEq, Nat.reduceLT, Nat.reduceEqDiff, Nat.reduceBEq, Nat.reduceAdd, Nat.reduceMul, Nat.reduceSub, Nat.reduceLeDiff, Int.reduceNeg, Int.reduceLT, Int.reduceLE, Int.reduceEq, Int.reduceAdd, Int.reduceToNat, e])
            skip
            exact .inr h
      · ((try first | refine walk_aw env_ok (none) ?_ | refine walk_aw envR_ok (none) ?_); try simp -implicitDefEqProofs (maxSteps := 1000000) (disch := omega) only [go_sem, ↓reduceIte, reduceCtorEq, Nat.reduceLT, Nat.reduceEqDiff, Nat.reduceBEq, Nat.reduceAdd, Nat.reduceMul, Nat.reduceSub, Nat.reduceLeDiff, Int.reduceNeg, Int.reduceLT, Int.reduceLE, Int.reduceEq, Int.reduceAdd, Int.reduceToNat, IntWalk.i64_in, IntWalk.u64_in, IntWalk.u8_in, if_pos, if_neg, Bool.and_eq_true, decide_eq_true_eq, his, c1])
        refine Kind_spec ?_
        by_cases k0 : kd 0 = 0
        · simp only [if_pos k0] at h
          ((try first | refine walk_aw env_ok (none) ?_ | refine walk_aw envR_ok (none) ?_); try simp -implicitDefEqProofs (maxSteps := 1000000) only [go_sem, ↓reduceIte, reduceCtorEq, Nat.reduceLT, Nat.reduceEqDiff, Nat.reduceBEq, Nat.reduceAdd, Nat.reduceMul, Nat.reduceSub, Nat.reduceLeDiff, Int.reduceNeg, Int.reduceLT, Int.reduceLE, Int.reduceEq, Int.reduceAdd, Int.reduceToNat, k0, his, hss])
          refine Fail_spec (by first | exact hin _ | exact hsg _ _) ?_
          ((try first | refine walk_aw env_ok (none) ?_ | refine walk_aw envR_ok (none) ?_); try simp -implicitDefEqProofs (maxSteps := 1000000) only [go_sem, ↓reduceIte, reduceCtorEq, Nat.reduceLT, Nat.reduceEqDiff, Nat.reduceBEq, Nat.reduceAdd, Nat.reduceMul, Nat.reduceSub, Nat.reduceLeDiff, Int.reduceNeg, Int.reduceLT, Int.reduceLE, Int.reduceEq, Int.reduceAdd, Int.reduceToNat, his, hss])
          refine Err_spec (hsg _ _) ?_
          have ne : ¬ (s.uleb.2.fail 41).err = 0 := by rw [CS.fail]; split <;> simp_all
          rw [if_neg ne] at h
          ((try first | refine walk_aw env_ok (none) ?_ | refine walk_aw envR_ok (none) ?_); try simp -implicitDefEqProofs (maxSteps := 1000000) only [go_sem, ↓reduceIte, reduceCtorEq, Nat.reduceLT, Nat.reduceEqDiff, Nat.reduceBEq, Nat.reduceAdd, Nat.reduceMul, Nat.reduceSub, Nat.reduceLeDiff, Int.reduceNeg, Int.reduceLT, Int.reduceLE, Int.reduceEq, Int.reduceAdd, Int.reduceToNat, ne])
          exact .inr h
        · simp only [if_neg k0] at h
          ((try first | refine walk_aw env_ok (none) ?_ | refine walk_aw envR_ok (none) ?_); try simp -implicitDefEqProofs (maxSteps := 1000000) only [go_sem, ↓reduceIte, reduceCtorEq, Nat.reduceLT, Nat.reduceEqDiff, Nat.reduceBEq, Nat.reduceAdd, Nat.reduceMul, Nat.reduceSub, Nat.reduceLeDiff, Int.reduceNeg, Int.reduceLT, Int.reduceLE, Int.reduceEq, Int.reduceAdd, Int.reduceToNat, k0])
          refine Err_spec (by first | exact hin _ | exact hsg _ _) ?_
          by_cases e : s.uleb.2.err = 0
          · rw [if_pos e] at h
            ((try first | refine walk_aw env_ok (none) ?_ | refine walk_aw envR_ok (none) ?_); try simp -implicitDefEqProofs (maxSteps := 1000000) only [go_sem, ↓reduceIte, reduceCtorEq, Nat.reduceLT, Nat.reduceEqDiff, Nat.reduceBEq, Nat.reduceAdd, Nat.reduceMul, Nat.reduceSub, Nat.reduceLeDiff, Int.reduceNeg, Int.reduceLT, Int.reduceLE, Int.reduceEq, Int.reduceAdd, Int.reduceToNat, e])
            refine take_spec hok (by rw [hub]; exact hb) (by first | exact hin _ | exact hsg _ _) ?_
            ((try first | refine walk_aw env_ok (none) ?_ | refine walk_aw envR_ok (none) ?_); try simp -implicitDefEqProofs (maxSteps := 1000000) only [go_sem, ↓reduceIte, reduceCtorEq, Nat.reduceLT, Nat.reduceEqDiff, Nat.reduceBEq, Nat.reduceAdd, Nat.reduceMul, Nat.reduceSub, Nat.reduceLeDiff, Int.reduceNeg, Int.reduceLT, Int.reduceLE, Int.reduceEq, Int.reduceAdd, Int.reduceToNat, his, hss])
            refine Err_spec (hsg _ _) ?_
            by_cases e' : (rawVal s.uleb.2 0 i w).2.err = 0
            · rw [if_pos e'] at h
              ((try first | refine walk_aw env_ok (none) ?_ | refine walk_aw envR_ok (none) ?_); try simp -implicitDefEqProofs (maxSteps := 1000000) only [go_sem, ↓reduceIte, reduceCtorEq, Nat.reduceLT, Nat.reduceEqDiff, Nat.reduceBEq, Nat.reduceAdd, Nat.reduceMul, Nat.reduceSub, Nat.reduceLeDiff, Int.reduceNeg, Int.reduceLT, Int.reduceLE, Int.reduceEq, Int.reduceAdd, Int.reduceToNat, e'])
              exact .inr h
            · rw [if_neg e'] at h
              ((try first | refine walk_aw env_ok (none) ?_ | refine walk_aw envR_ok (none) ?_); try simp -implicitDefEqProofs (maxSteps := 1000000) only [go_sem, ↓reduceIte, reduceCtorEq, Nat.reduceLT, Nat.reduceEqDiff, Nat.reduceBEq, Nat.reduceAdd, Nat.reduceMul, Nat.reduceSub, Nat.reduceLeDiff, Int.reduceNeg, Int.reduceLT, Int.reduceLE, Int.reduceEq, Int.reduceAdd, Int.reduceToNat, e'])
              exact .inr h
          · rw [if_neg e] at h
            ((try first | refine walk_aw env_ok (none) ?_ | refine walk_aw envR_ok (none) ?_); try simp -implicitDefEqProofs (maxSteps := 1000000) only [go_sem, ↓reduceIte, reduceCtorEq, Nat.reduceLT, Nat.reduceEqDiff, Nat.reduceBEq, Nat.reduceAdd, Nat.reduceMul, Nat.reduceSub, Nat.reduceLeDiff, Int.reduceNeg, Int.reduceLT, Int.reduceLE, Int.reduceEq, Int.reduceAdd, Int.reduceToNat, e])
            skip
            exact .inr h
  · rw [rawTake, show formOf s f = f from if_neg e1, show formSt s f = s from if_neg e1] at h
    ((try first | refine walk_aw env_ok (none) ?_ | refine walk_aw envR_ok (none) ?_); try simp -implicitDefEqProofs (maxSteps := 1000000) only [go_sem, ↓reduceIte, reduceCtorEq, Nat.reduceLT, Nat.reduceEqDiff, Nat.reduceBEq, Nat.reduceAdd, Nat.reduceMul, Nat.reduceSub, Nat.reduceLeDiff, Int.reduceNeg, Int.reduceLT, Int.reduceLE, Int.reduceEq, Int.reduceAdd, Int.reduceToNat, e1])
    refine Kind_spec ?_
    by_cases k0 : kd f = 0
    · simp only [if_pos k0] at h
      ((try first | refine walk_aw env_ok (none) ?_ | refine walk_aw envR_ok (none) ?_); try simp -implicitDefEqProofs (maxSteps := 1000000) only [go_sem, ↓reduceIte, reduceCtorEq, Nat.reduceLT, Nat.reduceEqDiff, Nat.reduceBEq, Nat.reduceAdd, Nat.reduceMul, Nat.reduceSub, Nat.reduceLeDiff, Int.reduceNeg, Int.reduceLT, Int.reduceLE, Int.reduceEq, Int.reduceAdd, Int.reduceToNat, k0, his, hss])
      refine Fail_spec (by first | exact hin _ | exact hsg _ _) ?_
      ((try first | refine walk_aw env_ok (none) ?_ | refine walk_aw envR_ok (none) ?_); try simp -implicitDefEqProofs (maxSteps := 1000000) only [go_sem, ↓reduceIte, reduceCtorEq, Nat.reduceLT, Nat.reduceEqDiff, Nat.reduceBEq, Nat.reduceAdd, Nat.reduceMul, Nat.reduceSub, Nat.reduceLeDiff, Int.reduceNeg, Int.reduceLT, Int.reduceLE, Int.reduceEq, Int.reduceAdd, Int.reduceToNat, his, hss])
      refine Err_spec (hsg _ _) ?_
      have ne : ¬ (s.fail 41).err = 0 := by rw [CS.fail]; split <;> simp_all
      rw [if_neg ne] at h
      ((try first | refine walk_aw env_ok (none) ?_ | refine walk_aw envR_ok (none) ?_); try simp -implicitDefEqProofs (maxSteps := 1000000) only [go_sem, ↓reduceIte, reduceCtorEq, Nat.reduceLT, Nat.reduceEqDiff, Nat.reduceBEq, Nat.reduceAdd, Nat.reduceMul, Nat.reduceSub, Nat.reduceLeDiff, Int.reduceNeg, Int.reduceLT, Int.reduceLE, Int.reduceEq, Int.reduceAdd, Int.reduceToNat, ne])
      exact .inr h
    · simp only [if_neg k0] at h
      ((try first | refine walk_aw env_ok (none) ?_ | refine walk_aw envR_ok (none) ?_); try simp -implicitDefEqProofs (maxSteps := 1000000) only [go_sem, ↓reduceIte, reduceCtorEq, Nat.reduceLT, Nat.reduceEqDiff, Nat.reduceBEq, Nat.reduceAdd, Nat.reduceMul, Nat.reduceSub, Nat.reduceLeDiff, Int.reduceNeg, Int.reduceLT, Int.reduceLE, Int.reduceEq, Int.reduceAdd, Int.reduceToNat, k0])
      refine Err_spec (by first | exact hin _ | exact hsg _ _) ?_
      by_cases e : s.err = 0
      · rw [if_pos e] at h
        ((try first | refine walk_aw env_ok (none) ?_ | refine walk_aw envR_ok (none) ?_); try simp -implicitDefEqProofs (maxSteps := 1000000) only [go_sem, ↓reduceIte, reduceCtorEq, Nat.reduceLT, Nat.reduceEqDiff, Nat.reduceBEq, Nat.reduceAdd, Nat.reduceMul, Nat.reduceSub, Nat.reduceLeDiff, Int.reduceNeg, Int.reduceLT, Int.reduceLE, Int.reduceEq, Int.reduceAdd, Int.reduceToNat, e])
        refine take_spec hs hb (by first | exact hin _ | exact hsg _ _) ?_
        ((try first | refine walk_aw env_ok (none) ?_ | refine walk_aw envR_ok (none) ?_); try simp -implicitDefEqProofs (maxSteps := 1000000) only [go_sem, ↓reduceIte, reduceCtorEq, Nat.reduceLT, Nat.reduceEqDiff, Nat.reduceBEq, Nat.reduceAdd, Nat.reduceMul, Nat.reduceSub, Nat.reduceLeDiff, Int.reduceNeg, Int.reduceLT, Int.reduceLE, Int.reduceEq, Int.reduceAdd, Int.reduceToNat, his, hss])
        refine Err_spec (hsg _ _) ?_
        by_cases e' : (rawVal s f i w).2.err = 0
        · rw [if_pos e'] at h
          ((try first | refine walk_aw env_ok (none) ?_ | refine walk_aw envR_ok (none) ?_); try simp -implicitDefEqProofs (maxSteps := 1000000) only [go_sem, ↓reduceIte, reduceCtorEq, Nat.reduceLT, Nat.reduceEqDiff, Nat.reduceBEq, Nat.reduceAdd, Nat.reduceMul, Nat.reduceSub, Nat.reduceLeDiff, Int.reduceNeg, Int.reduceLT, Int.reduceLE, Int.reduceEq, Int.reduceAdd, Int.reduceToNat, e'])
          exact .inr h
        · rw [if_neg e'] at h
          ((try first | refine walk_aw env_ok (none) ?_ | refine walk_aw envR_ok (none) ?_); try simp -implicitDefEqProofs (maxSteps := 1000000) only [go_sem, ↓reduceIte, reduceCtorEq, Nat.reduceLT, Nat.reduceEqDiff, Nat.reduceBEq, Nat.reduceAdd, Nat.reduceMul, Nat.reduceSub, Nat.reduceLeDiff, Int.reduceNeg, Int.reduceLT, Int.reduceLE, Int.reduceEq, Int.reduceAdd, Int.reduceToNat, e'])
          exact .inr h
      · rw [if_neg e] at h
        ((try first | refine walk_aw env_ok (none) ?_ | refine walk_aw envR_ok (none) ?_); try simp -implicitDefEqProofs (maxSteps := 1000000) only [go_sem, ↓reduceIte, reduceCtorEq, Nat.reduceLT, Nat.reduceEqDiff, Nat.reduceBEq, Nat.reduceAdd, Nat.reduceMul, Nat.reduceSub, Nat.reduceLeDiff, Int.reduceNeg, Int.reduceLT, Int.reduceLE, Int.reduceEq, Int.reduceAdd, Int.reduceToNat, e])
        rw [set_same hp] at h
        exact .inr h
end
end Go.Ab
end

section
/- Package sindriref14: values that are read. -/
namespace Go.Ab
open V Go.Proofs
set_option maxHeartbeats 4000000
set_option maxRecDepth 10000
set_option linter.unusedSimpArgs false
set_option linter.unusedVariables false

theorem size_rel : ∀ k : Nat, k < 45 → (k = 30 ∨ k = 25 ∨ kindL.getD k 0 = 0 ∨ sizeL.getD k 0 = -3) ∨ (sizeL.getD k 0 = -1 ∧ sizeR.getD k 0 = 0) ∨ (sizeL.getD k 0 ≠ -1 ∧ sizeR.getD k 0 = sizeL.getD k 0 ∧ sizeL.getD k 0 ≠ 0) := by decide
theorem other_rel : ∀ k : Nat, k < 45 → sizeL.getD k 0 = -3 → k = 8 ∨ k = 13 ∨ k = 33 := by decide
theorem kd_in {f : Int} (h : kd f ≠ 0) : ∃ k : Nat, k < 45 ∧ f = (k : Int) := by
  by_cases c : 0 ≤ f ∧ f < 45
  · exact ⟨f.toNat, by omega, by omega⟩
  · rw [kd, if_neg c] at h; exact absurd rfl h
theorem kd_five : ∀ k : Nat, k < 45 → (kindL.getD k 0 = 5 ↔ k = 8) := by decide
theorem kd5 {f : Int} : kd f = 5 ↔ f = 8 := by
  constructor
  · intro h
    obtain ⟨k, hk, rfl⟩ := kd_in (by rw [h]; decide)
    rw [kd_nat hk] at h
    have := (kd_five k hk).1 h
    omega
  · rintro rfl; rfl
/-- Both read the number alike. -/
theorem num_rel {s : CS} {f : Int} {w : Bool} (h0 : kd f ≠ 0) (h1 : f ≠ 25) (h2 : f ≠ 33) (h3 : f ≠ 13) (h4 : f ≠ 8) (h5 : f ≠ 30) :
    (if szr f w = 0 then s.uleb else (le (s.take (min (max (szr f w) 0) 8).toNat).1, (s.take (min (max (szr f w) 0) 8).toNat).2)) = s.num (szf f) w := by
  obtain ⟨k, hk, rfl⟩ := kd_in h0
  rw [kd_nat hk] at h0
  rw [szr_nat hk, szf_nat hk, CS.num]
  rcases size_rel k hk with c | ⟨c1, c2⟩ | ⟨c1, c2, c3⟩
  · exfalso
    rcases c with c | c | c | c
    · omega
    · omega
    · exact h0 c
    · rcases other_rel k hk c with c | c | c <;> omega
  · rw [c2, if_pos c1]; rfl
  · rw [c2, if_neg c1]
    by_cases c4 : sizeL.getD k 0 = -2
    · rw [if_pos c4, if_neg (by split <;> omega)]
    · rw [if_neg c4, if_neg c3]

theorem tail_h {s : CS} {f i : Int} {w : Bool} {H : Heap} {p : Nat} {Q : A → Heap → Prop}
    (h : Q (.agg (if s.err = 0 then (if (rawVal s f i w).2.err = 0 then rawVal s f i w else (RV.zero 0, (rawVal s f i w).2)) else (RV.zero 0, s)).1.cells)
      (H.set p (.cells (if s.err = 0 then (if (rawVal s f i w).2.err = 0 then rawVal s f i w else (RV.zero 0, (rawVal s f i w).2)) else (RV.zero 0, s)).2.ref))) :
    Q (.agg (if (rawVal s f i w).2.err = 0 then (rawVal s f i w).1 else RV.zero 0).cells) (H.set p (.cells (rawVal s f i w).2.ref)) := by
  by_cases e : s.err = 0
  · rw [if_pos e] at h
    by_cases e2 : (rawVal s f i w).2.err = 0
    · rw [if_pos e2] at h ⊢; exact h
    · rw [if_neg e2] at h ⊢; exact h
  · rw [if_neg e] at h
    rw [rawVal_err e, if_neg e]; exact h
theorem kd_ne {f : Int} (h : kd f = 0) : ¬ f = 25 ∧ ¬ f = 33 ∧ ¬ f = 13 ∧ ¬ f = 8 ∧ ¬ f = 30 := by
  refine ⟨?_, ?_, ?_, ?_, ?_⟩ <;> rintro rfl <;> exact absurd h (by decide)

section
variable {p : Nat} {s : CS} {H : Heap} {Q : A → Heap → Prop}
theorem rbytes16 (hb : s.b.length < 140737488355328) (hs : s.Ok) (hp : H[p]? = some (.cells s.ref)) (h : Q (.sl (bA (s.take 16).1) none ()) (H.set p (.cells (s.take 16).2.ref))) :
    AC Tryd.prog 29 [.ptr (some (p, 0)), .int .u64 16] H Q := by
  have := rBytes_spec (n := 16) (Q := Q) (by omega) hs hb hp h
  exact this
theorem rTake_spec {at_ f i : Int} {w : Bool} (hs : s.Ok) (hb : s.b.length < 140737488355328) (hp : H[p]? = some (.cells s.ref))
    (h : Q (.agg (rawTake s f i w).1.cells) (H.set p (.cells (rawTake s f i w).2.ref))) :
    AC Tryd.prog 10 [.ptr (some (p, 0)), .agg [.int .i64 at_, .int .i64 f, .int .i64 i], .bool w] H Q := by
  have hin := fun Z => in_get (x := .cells s.ref) (H := H) (p := p) Z hp
  have his := fun Z y => in_set (x := .cells s.ref) (H := H) (p := p) Z y hp
  have hsg := fun Z y => sin_get (x := .cells s.ref) (H := H) (p := p) Z y hp
  have hss := fun Z y z => sin_set (x := .cells s.ref) (H := H) (p := p) Z y z hp
  refine AC.strip (E := env Tryd.prog 0 (fun _ => .copy) (fun _ => false)) env_ok ?_
  refine AC.enter (E := env Tryd.prog 92 (fun _ => .copy) (fun _ => false)) env_ok Tryd.func10 rfl rfl rfl (by simp only [List.length_cons, List.length_nil]; exact of_decide_eq_true rfl) ?_
  ((try first | refine walk_aw env_ok (none) ?_ | refine walk_aw envR_ok (none) ?_); try simp -implicitDefEqProofs (maxSteps := 1000000) only [go_sem, ↓reduceIte, reduceCtorEq, Nat.reduceLT, Nat.reduceEqDiff, Nat.reduceBEq, Nat.reduceAdd, Nat.reduceMul, Nat.reduceSub, Nat.reduceLeDiff, Int.reduceNeg, Int.reduceLT, Int.reduceLE, Int.reduceEq, Int.reduceAdd, Int.reduceToNat])
  by_cases e1 : f = 22
  · have hlt := s.uleb_lt hs
    have hok := hs.uleb
    have hub := s.uleb_b hs
    have hb2 : s.uleb.2.b.length < 140737488355328 := by rw [hub]; exact hb
    ((try first | refine walk_aw env_ok (none) ?_ | refine walk_aw envR_ok (none) ?_); try simp -implicitDefEqProofs (maxSteps := 1000000) only [go_sem, ↓reduceIte, reduceCtorEq, Nat.reduceLT, Nat.reduceEqDiff, Nat.reduceBEq, Nat.reduceAdd, Nat.reduceMul, Nat.reduceSub, Nat.reduceLeDiff, Int.reduceNeg, Int.reduceLT, Int.reduceLE, Int.reduceEq, Int.reduceAdd, Int.reduceToNat, e1])
    refine rU_spec hs (hin _) ?_
    by_cases c : s.uleb.1 < 100 ∧ s.uleb.1 ≠ 33
    · have c1 : (s.uleb.1 : Int) < 100 := by omega
      have c2 : ¬ (s.uleb.1 : Int) = 33 := by omega
      have hkf : kd (s.uleb.1 : Int) = 0 → kd (formOf s f) = 0 := by
        intro hc; rw [formOf, if_pos e1]; split
        · exact hc
        · rfl
      have hff : kd (s.uleb.1 : Int) ≠ 0 → formOf s f = s.uleb.1 := by
        intro hc; obtain ⟨k, hk, hk2⟩ := kd_in hc; rw [formOf, if_pos e1, if_pos (by omega)]
      rw [rawTake, show formSt s f = s.uleb.2 from if_pos e1] at h
      ((try first | refine walk_aw env_ok (none) ?_ | refine walk_aw envR_ok (none) ?_); try simp -implicitDefEqProofs (maxSteps := 1000000) (disch := omega) only [go_sem, ↓reduceIte, reduceCtorEq, Nat.reduceLT, Nat.reduceEqDiff, Nat.reduceBEq, Nat.reduceAdd, Nat.reduceMul, Nat.reduceSub, Nat.reduceLeDiff, Int.reduceNeg, Int.reduceLT, Int.reduceLE, Int.reduceEq, Int.reduceAdd, Int.reduceToNat, IntWalk.i64_in, IntWalk.u64_in, IntWalk.u8_in, if_pos, if_neg, Bool.and_eq_true, decide_eq_true_eq, his, c1, c2])
      refine rKind_spec ?_
      by_cases k0 : kd (s.uleb.1 : Int) = 0
      · simp only [if_pos (show kd (formOf s f) = 0 from hkf k0)] at h
        obtain ⟨n1, n2, n3, n4, n5⟩ := kd_ne k0
        have ne : ¬ (s.uleb.2.fail 41).err = 0 := by rw [CS.fail]; split <;> simp_all
        rw [if_neg ne] at h
        ((try first | refine walk_aw env_ok (none) ?_ | refine walk_aw envR_ok (none) ?_); try simp -implicitDefEqProofs (maxSteps := 1000000) only [go_sem, ↓reduceIte, reduceCtorEq, Nat.reduceLT, Nat.reduceEqDiff, Nat.reduceBEq, Nat.reduceAdd, Nat.reduceMul, Nat.reduceSub, Nat.reduceLeDiff, Int.reduceNeg, Int.reduceLT, Int.reduceLE, Int.reduceEq, Int.reduceAdd, Int.reduceToNat, k0, his, hss])
        refine rFail_spec (by first | exact hin _ | exact hsg _ _) ?_
        ((try first | refine walk_aw env_ok (none) ?_ | refine walk_aw envR_ok (none) ?_); try simp -implicitDefEqProofs (maxSteps := 1000000) only [go_sem, ↓reduceIte, reduceCtorEq, Nat.reduceLT, Nat.reduceEqDiff, Nat.reduceBEq, Nat.reduceAdd, Nat.reduceMul, Nat.reduceSub, Nat.reduceLeDiff, Int.reduceNeg, Int.reduceLT, Int.reduceLE, Int.reduceEq, Int.reduceAdd, Int.reduceToNat, his, hss, hin, hsg, n1, n2, n3, n4, n5, ne])
        exact .inr h
      · rw [hff k0] at h
        simp only [if_neg k0] at h
        replace h := tail_h h
        by_cases n1 : (s.uleb.1 : Int) = 25
        · rw [rawVal, if_pos n1] at h
          simp only at h
          skip
          ((try first | refine walk_aw env_ok (none) ?_ | refine walk_aw envR_ok (none) ?_); try simp -implicitDefEqProofs (maxSteps := 1000000) only [go_sem, ↓reduceIte, reduceCtorEq, Nat.reduceLT, Nat.reduceEqDiff, Nat.reduceBEq, Nat.reduceAdd, Nat.reduceMul, Nat.reduceSub, Nat.reduceLeDiff, Int.reduceNeg, Int.reduceLT, Int.reduceLE, Int.reduceEq, Int.reduceAdd, Int.reduceToNat, k0, n1, show kd 25 = 4 from rfl, his, hss, hin, hsg])
          rw [n1] at h
          by_cases e : s.uleb.2.err = 0
          · rw [if_pos e] at h
            ((try first | refine walk_aw env_ok (none) ?_ | refine walk_aw envR_ok (none) ?_); try simp -implicitDefEqProofs (maxSteps := 1000000) only [go_sem, ↓reduceIte, reduceCtorEq, Nat.reduceLT, Nat.reduceEqDiff, Nat.reduceBEq, Nat.reduceAdd, Nat.reduceMul, Nat.reduceSub, Nat.reduceLeDiff, Int.reduceNeg, Int.reduceLT, Int.reduceLE, Int.reduceEq, Int.reduceAdd, Int.reduceToNat, his, hss, hin, hsg, e])
            exact .inr h
          · rw [if_neg e] at h
            ((try first | refine walk_aw env_ok (none) ?_ | refine walk_aw envR_ok (none) ?_); try simp -implicitDefEqProofs (maxSteps := 1000000) only [go_sem, ↓reduceIte, reduceCtorEq, Nat.reduceLT, Nat.reduceEqDiff, Nat.reduceBEq, Nat.reduceAdd, Nat.reduceMul, Nat.reduceSub, Nat.reduceLeDiff, Int.reduceNeg, Int.reduceLT, Int.reduceLE, Int.reduceEq, Int.reduceAdd, Int.reduceToNat, his, hss, hin, hsg, e])
            exact .inr h
        by_cases n2 : (s.uleb.1 : Int) = 33
        · rw [rawVal, if_neg n1, if_pos n2] at h
          simp only at h
          skip
          ((try first | refine walk_aw env_ok (none) ?_ | refine walk_aw envR_ok (none) ?_); try simp -implicitDefEqProofs (maxSteps := 1000000) only [go_sem, ↓reduceIte, reduceCtorEq, Nat.reduceLT, Nat.reduceEqDiff, Nat.reduceBEq, Nat.reduceAdd, Nat.reduceMul, Nat.reduceSub, Nat.reduceLeDiff, Int.reduceNeg, Int.reduceLT, Int.reduceLE, Int.reduceEq, Int.reduceAdd, Int.reduceToNat, k0, n1, n2, show kd 33 = 3 from rfl, his, hss, hin, hsg])
          rw [n2] at h
          by_cases e : s.uleb.2.err = 0
          · rw [if_pos e] at h
            ((try first | refine walk_aw env_ok (none) ?_ | refine walk_aw envR_ok (none) ?_); try simp -implicitDefEqProofs (maxSteps := 1000000) only [go_sem, ↓reduceIte, reduceCtorEq, Nat.reduceLT, Nat.reduceEqDiff, Nat.reduceBEq, Nat.reduceAdd, Nat.reduceMul, Nat.reduceSub, Nat.reduceLeDiff, Int.reduceNeg, Int.reduceLT, Int.reduceLE, Int.reduceEq, Int.reduceAdd, Int.reduceToNat, his, hss, hin, hsg, e])
            exact .inr h
          · rw [if_neg e] at h
            ((try first | refine walk_aw env_ok (none) ?_ | refine walk_aw envR_ok (none) ?_); try simp -implicitDefEqProofs (maxSteps := 1000000) only [go_sem, ↓reduceIte, reduceCtorEq, Nat.reduceLT, Nat.reduceEqDiff, Nat.reduceBEq, Nat.reduceAdd, Nat.reduceMul, Nat.reduceSub, Nat.reduceLeDiff, Int.reduceNeg, Int.reduceLT, Int.reduceLE, Int.reduceEq, Int.reduceAdd, Int.reduceToNat, his, hss, hin, hsg, e])
            exact .inr h
        by_cases n3 : (s.uleb.1 : Int) = 13
        · rw [rawVal, if_neg n1, if_neg n2, if_pos n3] at h
          simp only at h
          ((try first | refine walk_aw env_ok (none) ?_ | refine walk_aw envR_ok (none) ?_); try simp -implicitDefEqProofs (maxSteps := 1000000) only [go_sem, ↓reduceIte, reduceCtorEq, Nat.reduceLT, Nat.reduceEqDiff, Nat.reduceBEq, Nat.reduceAdd, Nat.reduceMul, Nat.reduceSub, Nat.reduceLeDiff, Int.reduceNeg, Int.reduceLT, Int.reduceLE, Int.reduceEq, Int.reduceAdd, Int.reduceToNat, k0, n1, n2, n3, show kd 13 = 3 from rfl, his, hss, hin, hsg])
          refine rS_spec hok (by first | exact hin _ | exact hsg _ _) ?_
          rw [n3] at h
          by_cases e : s.uleb.2.sleb.2.err = 0
          · rw [if_pos e] at h
            ((try first | refine walk_aw env_ok (none) ?_ | refine walk_aw envR_ok (none) ?_); try simp -implicitDefEqProofs (maxSteps := 1000000) only [go_sem, ↓reduceIte, reduceCtorEq, Nat.reduceLT, Nat.reduceEqDiff, Nat.reduceBEq, Nat.reduceAdd, Nat.reduceMul, Nat.reduceSub, Nat.reduceLeDiff, Int.reduceNeg, Int.reduceLT, Int.reduceLE, Int.reduceEq, Int.reduceAdd, Int.reduceToNat, his, hss, hin, hsg, e])
            exact .inr h
          · rw [if_neg e] at h
            ((try first | refine walk_aw env_ok (none) ?_ | refine walk_aw envR_ok (none) ?_); try simp -implicitDefEqProofs (maxSteps := 1000000) only [go_sem, ↓reduceIte, reduceCtorEq, Nat.reduceLT, Nat.reduceEqDiff, Nat.reduceBEq, Nat.reduceAdd, Nat.reduceMul, Nat.reduceSub, Nat.reduceLeDiff, Int.reduceNeg, Int.reduceLT, Int.reduceLE, Int.reduceEq, Int.reduceAdd, Int.reduceToNat, his, hss, hin, hsg, e])
            exact .inr h
        by_cases n4 : (s.uleb.1 : Int) = 8
        · rw [rawVal, if_neg n1, if_neg n2, if_neg n3, if_pos (kd5.2 n4)] at h
          simp only at h
          ((try first | refine walk_aw env_ok (none) ?_ | refine walk_aw envR_ok (none) ?_); try simp -implicitDefEqProofs (maxSteps := 1000000) only [go_sem, ↓reduceIte, reduceCtorEq, Nat.reduceLT, Nat.reduceEqDiff, Nat.reduceBEq, Nat.reduceAdd, Nat.reduceMul, Nat.reduceSub, Nat.reduceLeDiff, Int.reduceNeg, Int.reduceLT, Int.reduceLE, Int.reduceEq, Int.reduceAdd, Int.reduceToNat, k0, n1, n2, n3, n4, show kd 8 = 5 from rfl, his, hss, hin, hsg])
          refine rText_spec hok hb2 (by first | exact hin _ | exact hsg _ _) ?_
          rw [n4] at h
          by_cases e : s.uleb.2.text.2.err = 0
          · rw [if_pos e] at h
            ((try first | refine walk_aw env_ok (none) ?_ | refine walk_aw envR_ok (none) ?_); try simp -implicitDefEqProofs (maxSteps := 1000000) only [go_sem, ↓reduceIte, reduceCtorEq, Nat.reduceLT, Nat.reduceEqDiff, Nat.reduceBEq, Nat.reduceAdd, Nat.reduceMul, Nat.reduceSub, Nat.reduceLeDiff, Int.reduceNeg, Int.reduceLT, Int.reduceLE, Int.reduceEq, Int.reduceAdd, Int.reduceToNat, his, hss, hin, hsg, e])
            exact .inr h
          · rw [if_neg e] at h
            ((try first | refine walk_aw env_ok (none) ?_ | refine walk_aw envR_ok (none) ?_); try simp -implicitDefEqProofs (maxSteps := 1000000) only [go_sem, ↓reduceIte, reduceCtorEq, Nat.reduceLT, Nat.reduceEqDiff, Nat.reduceBEq, Nat.reduceAdd, Nat.reduceMul, Nat.reduceSub, Nat.reduceLeDiff, Int.reduceNeg, Int.reduceLT, Int.reduceLE, Int.reduceEq, Int.reduceAdd, Int.reduceToNat, his, hss, hin, hsg, e])
            exact .inr h
        have n4' : ¬ kd (s.uleb.1 : Int) = 5 := fun hc => n4 (kd5.1 hc)
        by_cases n5 : (s.uleb.1 : Int) = 30
        · rw [rawVal, if_neg n1, if_neg n2, if_neg n3, if_neg n4', if_pos n5] at h
          simp only at h
          ((try first | refine walk_aw env_ok (none) ?_ | refine walk_aw envR_ok (none) ?_); try simp -implicitDefEqProofs (maxSteps := 1000000) only [go_sem, ↓reduceIte, reduceCtorEq, Nat.reduceLT, Nat.reduceEqDiff, Nat.reduceBEq, Nat.reduceAdd, Nat.reduceMul, Nat.reduceSub, Nat.reduceLeDiff, Int.reduceNeg, Int.reduceLT, Int.reduceLE, Int.reduceEq, Int.reduceAdd, Int.reduceToNat, k0, n1, n2, n3, n4, n5, show kd 30 = 9 from rfl, his, hss, hin, hsg])
          refine rbytes16 hb2 hok (by first | exact hin _ | exact hsg _ _) ?_
          rw [n5] at h
          by_cases e : (s.uleb.2.take 16).2.err = 0
          · rw [if_pos e] at h
            ((try first | refine walk_aw env_ok (none) ?_ | refine walk_aw envR_ok (none) ?_); try simp -implicitDefEqProofs (maxSteps := 1000000) only [go_sem, ↓reduceIte, reduceCtorEq, Nat.reduceLT, Nat.reduceEqDiff, Nat.reduceBEq, Nat.reduceAdd, Nat.reduceMul, Nat.reduceSub, Nat.reduceLeDiff, Int.reduceNeg, Int.reduceLT, Int.reduceLE, Int.reduceEq, Int.reduceAdd, Int.reduceToNat, his, hss, hin, hsg, e])
            exact .inr h
          · rw [if_neg e] at h
            ((try first | refine walk_aw env_ok (none) ?_ | refine walk_aw envR_ok (none) ?_); try simp -implicitDefEqProofs (maxSteps := 1000000) only [go_sem, ↓reduceIte, reduceCtorEq, Nat.reduceLT, Nat.reduceEqDiff, Nat.reduceBEq, Nat.reduceAdd, Nat.reduceMul, Nat.reduceSub, Nat.reduceLeDiff, Int.reduceNeg, Int.reduceLT, Int.reduceLE, Int.reduceEq, Int.reduceAdd, Int.reduceToNat, his, hss, hin, hsg, e])
            exact .inr h
        rw [rawVal, if_neg n1, if_neg n2, if_neg n3, if_neg n4', if_neg n5] at h
        have hnr := num_rel (s := s.uleb.2) (w := w) k0 n1 n2 n3 n4 n5
        by_cases n6 : kd (s.uleb.1 : Int) = 9 ∨ kd (s.uleb.1 : Int) = 10
        · rw [if_pos n6] at h
          simp only at h
          have hok2 := CS.Ok.num hok (szf (s.uleb.1 : Int)) w
          have hnb := CS.num_b hok (szf (s.uleb.1 : Int)) w
          have hlt2 := CS.num_lt hok (szf (s.uleb.1 : Int)) w
          have n7 : kd (s.uleb.1 : Int) = 9 ∨ ¬ kd (s.uleb.1 : Int) = 9 ∧ kd (s.uleb.1 : Int) = 10 := by omega
          rcases n7 with n7 | ⟨n7, n8⟩
          · ((try first | refine walk_aw env_ok (none) ?_ | refine walk_aw envR_ok (none) ?_); try simp -implicitDefEqProofs (maxSteps := 1000000) only [go_sem, ↓reduceIte, reduceCtorEq, Nat.reduceLT, Nat.reduceEqDiff, Nat.reduceBEq, Nat.reduceAdd, Nat.reduceMul, Nat.reduceSub, Nat.reduceLeDiff, Int.reduceNeg, Int.reduceLT, Int.reduceLE, Int.reduceEq, Int.reduceAdd, Int.reduceToNat, k0, n1, n2, n3, n4, n5, n7, his, hss])
            refine rnumber_spec hok (by first | exact hin _ | exact hsg _ _) ?_
            rw [hnr]
            by_cases g1 : (s.uleb.2.num (szf (s.uleb.1 : Int)) w).1 > 65536
            · rw [if_pos g1] at h
              have g2 : (((s.uleb.2.num (szf (s.uleb.1 : Int)) w).1 : Nat) : Int) > 65536 := by omega
              ((try first | refine walk_aw env_ok (none) ?_ | refine walk_aw envR_ok (none) ?_); try simp -implicitDefEqProofs (maxSteps := 1000000) only [go_sem, ↓reduceIte, reduceCtorEq, Nat.reduceLT, Nat.reduceEqDiff, Nat.reduceBEq, Nat.reduceAdd, Nat.reduceMul, Nat.reduceSub, Nat.reduceLeDiff, Int.reduceNeg, Int.reduceLT, Int.reduceLE, Int.reduceEq, Int.reduceAdd, Int.reduceToNat, his, hss, g2])
              refine rFail_spec (hsg _ _) ?_
              ((try first | refine walk_aw env_ok (none) ?_ | refine walk_aw envR_ok (none) ?_); try simp -implicitDefEqProofs (maxSteps := 1000000) only [go_sem, ↓reduceIte, reduceCtorEq, Nat.reduceLT, Nat.reduceEqDiff, Nat.reduceBEq, Nat.reduceAdd, Nat.reduceMul, Nat.reduceSub, Nat.reduceLeDiff, Int.reduceNeg, Int.reduceLT, Int.reduceLE, Int.reduceEq, Int.reduceAdd, Int.reduceToNat, hss])
              refine rBytes_spec hlt2 (hok2.fail (by omega) (by omega)) (by rw [CS.fail_b, hnb]; exact hb2) (hsg _ _) ?_
              by_cases e : (((s.uleb.2.num (szf (s.uleb.1 : Int)) w).2.fail 3).take (s.uleb.2.num (szf (s.uleb.1 : Int)) w).1).2.err = 0
              · rw [if_pos e] at h
                ((try first | refine walk_aw env_ok (none) ?_ | refine walk_aw envR_ok (none) ?_); try simp -implicitDefEqProofs (maxSteps := 1000000) only [go_sem, ↓reduceIte, reduceCtorEq, Nat.reduceLT, Nat.reduceEqDiff, Nat.reduceBEq, Nat.reduceAdd, Nat.reduceMul, Nat.reduceSub, Nat.reduceLeDiff, Int.reduceNeg, Int.reduceLT, Int.reduceLE, Int.reduceEq, Int.reduceAdd, Int.reduceToNat, his, hss, hin, hsg, e])
                exact .inr h
              · rw [if_neg e] at h
                ((try first | refine walk_aw env_ok (none) ?_ | refine walk_aw envR_ok (none) ?_); try simp -implicitDefEqProofs (maxSteps := 1000000) only [go_sem, ↓reduceIte, reduceCtorEq, Nat.reduceLT, Nat.reduceEqDiff, Nat.reduceBEq, Nat.reduceAdd, Nat.reduceMul, Nat.reduceSub, Nat.reduceLeDiff, Int.reduceNeg, Int.reduceLT, Int.reduceLE, Int.reduceEq, Int.reduceAdd, Int.reduceToNat, his, hss, hin, hsg, e])
                exact .inr h
            · rw [if_neg g1] at h
              have g2 : ¬ (((s.uleb.2.num (szf (s.uleb.1 : Int)) w).1 : Nat) : Int) > 65536 := by omega
              ((try first | refine walk_aw env_ok (none) ?_ | refine walk_aw envR_ok (none) ?_); try simp -implicitDefEqProofs (maxSteps := 1000000) only [go_sem, ↓reduceIte, reduceCtorEq, Nat.reduceLT, Nat.reduceEqDiff, Nat.reduceBEq, Nat.reduceAdd, Nat.reduceMul, Nat.reduceSub, Nat.reduceLeDiff, Int.reduceNeg, Int.reduceLT, Int.reduceLE, Int.reduceEq, Int.reduceAdd, Int.reduceToNat, his, hss, g2])
              refine rBytes_spec hlt2 hok2 (by rw [hnb]; exact hb2) (hsg _ _) ?_
              by_cases e : ((s.uleb.2.num (szf (s.uleb.1 : Int)) w).2.take (s.uleb.2.num (szf (s.uleb.1 : Int)) w).1).2.err = 0
              · rw [if_pos e] at h
                ((try first | refine walk_aw env_ok (none) ?_ | refine walk_aw envR_ok (none) ?_); try simp -implicitDefEqProofs (maxSteps := 1000000) only [go_sem, ↓reduceIte, reduceCtorEq, Nat.reduceLT, Nat.reduceEqDiff, Nat.reduceBEq, Nat.reduceAdd, Nat.reduceMul, Nat.reduceSub, Nat.reduceLeDiff, Int.reduceNeg, Int.reduceLT, Int.reduceLE, Int.reduceEq, Int.reduceAdd, Int.reduceToNat, his, hss, hin, hsg, e])
                exact .inr h
              · rw [if_neg e] at h
                ((try first | refine walk_aw env_ok (none) ?_ | refine walk_aw envR_ok (none) ?_); try simp -implicitDefEqProofs (maxSteps := 1000000) only [go_sem, ↓reduceIte, reduceCtorEq, Nat.reduceLT, Nat.reduceEqDiff, Nat.reduceBEq, Nat.reduceAdd, Nat.reduceMul, Nat.reduceSub, Nat.reduceLeDiff, Int.reduceNeg, Int.reduceLT, Int.reduceLE, Int.reduceEq, Int.reduceAdd, Int.reduceToNat, his, hss, hin, hsg, e])
                exact .inr h
          · ((try first | refine walk_aw env_ok (none) ?_ | refine walk_aw envR_ok (none) ?_); try simp -implicitDefEqProofs (maxSteps := 1000000) only [go_sem, ↓reduceIte, reduceCtorEq, Nat.reduceLT, Nat.reduceEqDiff, Nat.reduceBEq, Nat.reduceAdd, Nat.reduceMul, Nat.reduceSub, Nat.reduceLeDiff, Int.reduceNeg, Int.reduceLT, Int.reduceLE, Int.reduceEq, Int.reduceAdd, Int.reduceToNat, k0, n1, n2, n3, n4, n5, n7, n8, his, hss])
            refine rnumber_spec hok (by first | exact hin _ | exact hsg _ _) ?_
            rw [hnr]
            by_cases g1 : (s.uleb.2.num (szf (s.uleb.1 : Int)) w).1 > 65536
            · rw [if_pos g1] at h
              have g2 : (((s.uleb.2.num (szf (s.uleb.1 : Int)) w).1 : Nat) : Int) > 65536 := by omega
              ((try first | refine walk_aw env_ok (none) ?_ | refine walk_aw envR_ok (none) ?_); try simp -implicitDefEqProofs (maxSteps := 1000000) only [go_sem, ↓reduceIte, reduceCtorEq, Nat.reduceLT, Nat.reduceEqDiff, Nat.reduceBEq, Nat.reduceAdd, Nat.reduceMul, Nat.reduceSub, Nat.reduceLeDiff, Int.reduceNeg, Int.reduceLT, Int.reduceLE, Int.reduceEq, Int.reduceAdd, Int.reduceToNat, his, hss, g2])
              refine rFail_spec (hsg _ _) ?_
              ((try first | refine walk_aw env_ok (none) ?_ | refine walk_aw envR_ok (none) ?_); try simp -implicitDefEqProofs (maxSteps := 1000000) only [go_sem, ↓reduceIte, reduceCtorEq, Nat.reduceLT, Nat.reduceEqDiff, Nat.reduceBEq, Nat.reduceAdd, Nat.reduceMul, Nat.reduceSub, Nat.reduceLeDiff, Int.reduceNeg, Int.reduceLT, Int.reduceLE, Int.reduceEq, Int.reduceAdd, Int.reduceToNat, hss])
              refine rBytes_spec hlt2 (hok2.fail (by omega) (by omega)) (by rw [CS.fail_b, hnb]; exact hb2) (hsg _ _) ?_
              by_cases e : (((s.uleb.2.num (szf (s.uleb.1 : Int)) w).2.fail 3).take (s.uleb.2.num (szf (s.uleb.1 : Int)) w).1).2.err = 0
              · rw [if_pos e] at h
                ((try first | refine walk_aw env_ok (none) ?_ | refine walk_aw envR_ok (none) ?_); try simp -implicitDefEqProofs (maxSteps := 1000000) only [go_sem, ↓reduceIte, reduceCtorEq, Nat.reduceLT, Nat.reduceEqDiff, Nat.reduceBEq, Nat.reduceAdd, Nat.reduceMul, Nat.reduceSub, Nat.reduceLeDiff, Int.reduceNeg, Int.reduceLT, Int.reduceLE, Int.reduceEq, Int.reduceAdd, Int.reduceToNat, his, hss, hin, hsg, e])
                exact .inr h
              · rw [if_neg e] at h
                ((try first | refine walk_aw env_ok (none) ?_ | refine walk_aw envR_ok (none) ?_); try simp -implicitDefEqProofs (maxSteps := 1000000) only [go_sem, ↓reduceIte, reduceCtorEq, Nat.reduceLT, Nat.reduceEqDiff, Nat.reduceBEq, Nat.reduceAdd, Nat.reduceMul, Nat.reduceSub, Nat.reduceLeDiff, Int.reduceNeg, Int.reduceLT, Int.reduceLE, Int.reduceEq, Int.reduceAdd, Int.reduceToNat, his, hss, hin, hsg, e])
                exact .inr h
            · rw [if_neg g1] at h
              have g2 : ¬ (((s.uleb.2.num (szf (s.uleb.1 : Int)) w).1 : Nat) : Int) > 65536 := by omega
              ((try first | refine walk_aw env_ok (none) ?_ | refine walk_aw envR_ok (none) ?_); try simp -implicitDefEqProofs (maxSteps := 1000000) only [go_sem, ↓reduceIte, reduceCtorEq, Nat.reduceLT, Nat.reduceEqDiff, Nat.reduceBEq, Nat.reduceAdd, Nat.reduceMul, Nat.reduceSub, Nat.reduceLeDiff, Int.reduceNeg, Int.reduceLT, Int.reduceLE, Int.reduceEq, Int.reduceAdd, Int.reduceToNat, his, hss, g2])
              refine rBytes_spec hlt2 hok2 (by rw [hnb]; exact hb2) (hsg _ _) ?_
              by_cases e : ((s.uleb.2.num (szf (s.uleb.1 : Int)) w).2.take (s.uleb.2.num (szf (s.uleb.1 : Int)) w).1).2.err = 0
              · rw [if_pos e] at h
                ((try first | refine walk_aw env_ok (none) ?_ | refine walk_aw envR_ok (none) ?_); try simp -implicitDefEqProofs (maxSteps := 1000000) only [go_sem, ↓reduceIte, reduceCtorEq, Nat.reduceLT, Nat.reduceEqDiff, Nat.reduceBEq, Nat.reduceAdd, Nat.reduceMul, Nat.reduceSub, Nat.reduceLeDiff, Int.reduceNeg, Int.reduceLT, Int.reduceLE, Int.reduceEq, Int.reduceAdd, Int.reduceToNat, his, hss, hin, hsg, e])
                exact .inr h
              · rw [if_neg e] at h
                ((try first | refine walk_aw env_ok (none) ?_ | refine walk_aw envR_ok (none) ?_); try simp -implicitDefEqProofs (maxSteps := 1000000) only [go_sem, ↓reduceIte, reduceCtorEq, Nat.reduceLT, Nat.reduceEqDiff, Nat.reduceBEq, Nat.reduceAdd, Nat.reduceMul, Nat.reduceSub, Nat.reduceLeDiff, Int.reduceNeg, Int.reduceLT, Int.reduceLE, Int.reduceEq, Int.reduceAdd, Int.reduceToNat, his, hss, hin, hsg, e])
                exact .inr h
        · rw [if_neg n6] at h
          simp only at h
          have n7 : ¬ kd (s.uleb.1 : Int) = 9 := fun hc => n6 (.inl hc)
          have n8 : ¬ kd (s.uleb.1 : Int) = 10 := fun hc => n6 (.inr hc)
          by_cases e0 : s.uleb.2.err = 0
          · ((try first | refine walk_aw env_ok (none) ?_ | refine walk_aw envR_ok (none) ?_); try simp -implicitDefEqProofs (maxSteps := 1000000) only [go_sem, ↓reduceIte, reduceCtorEq, Nat.reduceLT, Nat.reduceEqDiff, Nat.reduceBEq, Nat.reduceAdd, Nat.reduceMul, Nat.reduceSub, Nat.reduceLeDiff, Int.reduceNeg, Int.reduceLT, Int.reduceLE, Int.reduceEq, Int.reduceAdd, Int.reduceToNat, k0, n1, n2, n3, n4, n5, n7, n8, his, hss, hin, hsg, e0])
            refine rnumber_spec hok (by first | exact hin _ | exact hsg _ _) ?_
            rw [hnr]
            by_cases e : (s.uleb.2.num (szf (s.uleb.1 : Int)) w).2.err = 0
            · rw [if_pos e] at h
              ((try first | refine walk_aw env_ok (none) ?_ | refine walk_aw envR_ok (none) ?_); try simp -implicitDefEqProofs (maxSteps := 1000000) only [go_sem, ↓reduceIte, reduceCtorEq, Nat.reduceLT, Nat.reduceEqDiff, Nat.reduceBEq, Nat.reduceAdd, Nat.reduceMul, Nat.reduceSub, Nat.reduceLeDiff, Int.reduceNeg, Int.reduceLT, Int.reduceLE, Int.reduceEq, Int.reduceAdd, Int.reduceToNat, his, hss, hin, hsg, e])
              exact .inr h
            · rw [if_neg e] at h
              ((try first | refine walk_aw env_ok (none) ?_ | refine walk_aw envR_ok (none) ?_); try simp -implicitDefEqProofs (maxSteps := 1000000) only [go_sem, ↓reduceIte, reduceCtorEq, Nat.reduceLT, Nat.reduceEqDiff, Nat.reduceBEq, Nat.reduceAdd, Nat.reduceMul, Nat.reduceSub, Nat.reduceLeDiff, Int.reduceNeg, Int.reduceLT, Int.reduceLE, Int.reduceEq, Int.reduceAdd, Int.reduceToNat, his, hss, hin, hsg, e])
              exact .inr h
          · rw [CS.num_err e0, if_neg e0] at h
            simp only at h
            skip
            ((try first | refine walk_aw env_ok (none) ?_ | refine walk_aw envR_ok (none) ?_); try simp -implicitDefEqProofs (maxSteps := 1000000) only [go_sem, ↓reduceIte, reduceCtorEq, Nat.reduceLT, Nat.reduceEqDiff, Nat.reduceBEq, Nat.reduceAdd, Nat.reduceMul, Nat.reduceSub, Nat.reduceLeDiff, Int.reduceNeg, Int.reduceLT, Int.reduceLE, Int.reduceEq, Int.reduceAdd, Int.reduceToNat, k0, n1, n2, n3, n4, n5, n7, n8, his, hss, hin, hsg, e0])
            exact .inr h
    · have c0 : formOf s f = 0 := by rw [formOf, if_pos e1, if_neg (by omega)]
      rw [rawTake, c0, show formSt s f = s.uleb.2 from if_pos e1] at h
      have k0 : kd 0 = 0 := rfl
      simp only [if_pos k0] at h
      obtain ⟨n1, n2, n3, n4, n5⟩ := kd_ne k0
      have ne : ¬ (s.uleb.2.fail 41).err = 0 := by rw [CS.fail]; split <;> simp_all
      rw [if_neg ne] at h
      by_cases c1 : (s.uleb.1 : Int) < 100
      · have c2 : (s.uleb.1 : Int) = 33 := by omega
        ((try first | refine walk_aw env_ok (none) ?_ | refine walk_aw envR_ok (none) ?_); try simp -implicitDefEqProofs (maxSteps := 1000000) only [go_sem, ↓reduceIte, reduceCtorEq, Nat.reduceLT, Nat.reduceEqDiff, Nat.reduceBEq, Nat.reduceAdd, Nat.reduceMul, Nat.reduceSub, Nat.reduceLeDiff, Int.reduceNeg, Int.reduceLT, Int.reduceLE, Int.reduceEq, Int.reduceAdd, Int.reduceToNat, his, c1, c2])
        refine rKind_spec ?_
        ((try first | refine walk_aw env_ok (none) ?_ | refine walk_aw envR_ok (none) ?_); try simp -implicitDefEqProofs (maxSteps := 1000000) only [go_sem, ↓reduceIte, reduceCtorEq, Nat.reduceLT, Nat.reduceEqDiff, Nat.reduceBEq, Nat.reduceAdd, Nat.reduceMul, Nat.reduceSub, Nat.reduceLeDiff, Int.reduceNeg, Int.reduceLT, Int.reduceLE, Int.reduceEq, Int.reduceAdd, Int.reduceToNat, k0, his, hss])
        refine rFail_spec (hsg _ _) ?_
        ((try first | refine walk_aw env_ok (none) ?_ | refine walk_aw envR_ok (none) ?_); try simp -implicitDefEqProofs (maxSteps := 1000000) only [go_sem, ↓reduceIte, reduceCtorEq, Nat.reduceLT, Nat.reduceEqDiff, Nat.reduceBEq, Nat.reduceAdd, Nat.reduceMul, Nat.reduceSub, Nat.reduceLeDiff, Int.reduceNeg, Int.reduceLT, Int.reduceLE, Int.reduceEq, Int.reduceAdd, Int.reduceToNat, his, hss, hin, hsg, ne])
        exact .inr h
      · ((try first | refine walk_aw env_ok (none) ?_ | refine walk_aw envR_ok (none) ?_); try simp -implicitDefEqProofs (maxSteps := 1000000) only [go_sem, ↓reduceIte, reduceCtorEq, Nat.reduceLT, Nat.reduceEqDiff, Nat.reduceBEq, Nat.reduceAdd, Nat.reduceMul, Nat.reduceSub, Nat.reduceLeDiff, Int.reduceNeg, Int.reduceLT, Int.reduceLE, Int.reduceEq, Int.reduceAdd, Int.reduceToNat, his, c1])
        refine rKind_spec ?_
        ((try first | refine walk_aw env_ok (none) ?_ | refine walk_aw envR_ok (none) ?_); try simp -implicitDefEqProofs (maxSteps := 1000000) only [go_sem, ↓reduceIte, reduceCtorEq, Nat.reduceLT, Nat.reduceEqDiff, Nat.reduceBEq, Nat.reduceAdd, Nat.reduceMul, Nat.reduceSub, Nat.reduceLeDiff, Int.reduceNeg, Int.reduceLT, Int.reduceLE, Int.reduceEq, Int.reduceAdd, Int.reduceToNat, k0, his, hss])
        refine rFail_spec (hsg _ _) ?_
        ((try first | refine walk_aw env_ok (none) ?_ | refine walk_aw envR_ok (none) ?_); try simp -implicitDefEqProofs (maxSteps := 1000000) only [go_sem, ↓reduceIte, reduceCtorEq, Nat.reduceLT, Nat.reduceEqDiff, Nat.reduceBEq, Nat.reduceAdd, Nat.reduceMul, Nat.reduceSub, Nat.reduceLeDiff, Int.reduceNeg, Int.reduceLT, Int.reduceLE, Int.reduceEq, Int.reduceAdd, Int.reduceToNat, his, hss, hin, hsg, ne])
        exact .inr h
  · rw [rawTake, show formOf s f = f from if_neg e1, show formSt s f = s from if_neg e1] at h
    ((try first | refine walk_aw env_ok (none) ?_ | refine walk_aw envR_ok (none) ?_); try simp -implicitDefEqProofs (maxSteps := 1000000) only [go_sem, ↓reduceIte, reduceCtorEq, Nat.reduceLT, Nat.reduceEqDiff, Nat.reduceBEq, Nat.reduceAdd, Nat.reduceMul, Nat.reduceSub, Nat.reduceLeDiff, Int.reduceNeg, Int.reduceLT, Int.reduceLE, Int.reduceEq, Int.reduceAdd, Int.reduceToNat, e1])
    refine rKind_spec ?_
    by_cases k0 : kd f = 0
    · simp only [if_pos (show kd f = 0 from k0)] at h
      obtain ⟨n1, n2, n3, n4, n5⟩ := kd_ne k0
      have ne : ¬ (s.fail 41).err = 0 := by rw [CS.fail]; split <;> simp_all
      rw [if_neg ne] at h
      ((try first | refine walk_aw env_ok (none) ?_ | refine walk_aw envR_ok (none) ?_); try simp -implicitDefEqProofs (maxSteps := 1000000) only [go_sem, ↓reduceIte, reduceCtorEq, Nat.reduceLT, Nat.reduceEqDiff, Nat.reduceBEq, Nat.reduceAdd, Nat.reduceMul, Nat.reduceSub, Nat.reduceLeDiff, Int.reduceNeg, Int.reduceLT, Int.reduceLE, Int.reduceEq, Int.reduceAdd, Int.reduceToNat, k0, his, hss])
      refine rFail_spec (by first | exact hin _ | exact hsg _ _) ?_
      ((try first | refine walk_aw env_ok (none) ?_ | refine walk_aw envR_ok (none) ?_); try simp -implicitDefEqProofs (maxSteps := 1000000) only [go_sem, ↓reduceIte, reduceCtorEq, Nat.reduceLT, Nat.reduceEqDiff, Nat.reduceBEq, Nat.reduceAdd, Nat.reduceMul, Nat.reduceSub, Nat.reduceLeDiff, Int.reduceNeg, Int.reduceLT, Int.reduceLE, Int.reduceEq, Int.reduceAdd, Int.reduceToNat, his, hss, hin, hsg, n1, n2, n3, n4, n5, ne])
      exact .inr h
    · skip
      simp only [if_neg k0] at h
      replace h := tail_h h
      by_cases n1 : f = 25
      · rw [rawVal, if_pos n1] at h
        simp only at h
        rw [set_same hp] at h
        ((try first | refine walk_aw env_ok (none) ?_ | refine walk_aw envR_ok (none) ?_); try simp -implicitDefEqProofs (maxSteps := 1000000) only [go_sem, ↓reduceIte, reduceCtorEq, Nat.reduceLT, Nat.reduceEqDiff, Nat.reduceBEq, Nat.reduceAdd, Nat.reduceMul, Nat.reduceSub, Nat.reduceLeDiff, Int.reduceNeg, Int.reduceLT, Int.reduceLE, Int.reduceEq, Int.reduceAdd, Int.reduceToNat, k0, n1, show kd 25 = 4 from rfl, his, hss, hin, hsg])
        rw [n1] at h
        by_cases e : s.err = 0
        · rw [if_pos e] at h
          ((try first | refine walk_aw env_ok (none) ?_ | refine walk_aw envR_ok (none) ?_); try simp -implicitDefEqProofs (maxSteps := 1000000) only [go_sem, ↓reduceIte, reduceCtorEq, Nat.reduceLT, Nat.reduceEqDiff, Nat.reduceBEq, Nat.reduceAdd, Nat.reduceMul, Nat.reduceSub, Nat.reduceLeDiff, Int.reduceNeg, Int.reduceLT, Int.reduceLE, Int.reduceEq, Int.reduceAdd, Int.reduceToNat, his, hss, hin, hsg, e])
          exact .inr h
        · rw [if_neg e] at h
          ((try first | refine walk_aw env_ok (none) ?_ | refine walk_aw envR_ok (none) ?_); try simp -implicitDefEqProofs (maxSteps := 1000000) only [go_sem, ↓reduceIte, reduceCtorEq, Nat.reduceLT, Nat.reduceEqDiff, Nat.reduceBEq, Nat.reduceAdd, Nat.reduceMul, Nat.reduceSub, Nat.reduceLeDiff, Int.reduceNeg, Int.reduceLT, Int.reduceLE, Int.reduceEq, Int.reduceAdd, Int.reduceToNat, his, hss, hin, hsg, e])
          exact .inr h
      by_cases n2 : f = 33
      · rw [rawVal, if_neg n1, if_pos n2] at h
        simp only at h
        rw [set_same hp] at h
        ((try first | refine walk_aw env_ok (none) ?_ | refine walk_aw envR_ok (none) ?_); try simp -implicitDefEqProofs (maxSteps := 1000000) only [go_sem, ↓reduceIte, reduceCtorEq, Nat.reduceLT, Nat.reduceEqDiff, Nat.reduceBEq, Nat.reduceAdd, Nat.reduceMul, Nat.reduceSub, Nat.reduceLeDiff, Int.reduceNeg, Int.reduceLT, Int.reduceLE, Int.reduceEq, Int.reduceAdd, Int.reduceToNat, k0, n1, n2, show kd 33 = 3 from rfl, his, hss, hin, hsg])
        rw [n2] at h
        by_cases e : s.err = 0
        · rw [if_pos e] at h
          ((try first | refine walk_aw env_ok (none) ?_ | refine walk_aw envR_ok (none) ?_); try simp -implicitDefEqProofs (maxSteps := 1000000) only [go_sem, ↓reduceIte, reduceCtorEq, Nat.reduceLT, Nat.reduceEqDiff, Nat.reduceBEq, Nat.reduceAdd, Nat.reduceMul, Nat.reduceSub, Nat.reduceLeDiff, Int.reduceNeg, Int.reduceLT, Int.reduceLE, Int.reduceEq, Int.reduceAdd, Int.reduceToNat, his, hss, hin, hsg, e])
          exact .inr h
        · rw [if_neg e] at h
          ((try first | refine walk_aw env_ok (none) ?_ | refine walk_aw envR_ok (none) ?_); try simp -implicitDefEqProofs (maxSteps := 1000000) only [go_sem, ↓reduceIte, reduceCtorEq, Nat.reduceLT, Nat.reduceEqDiff, Nat.reduceBEq, Nat.reduceAdd, Nat.reduceMul, Nat.reduceSub, Nat.reduceLeDiff, Int.reduceNeg, Int.reduceLT, Int.reduceLE, Int.reduceEq, Int.reduceAdd, Int.reduceToNat, his, hss, hin, hsg, e])
          exact .inr h
      by_cases n3 : f = 13
      · rw [rawVal, if_neg n1, if_neg n2, if_pos n3] at h
        simp only at h
        ((try first | refine walk_aw env_ok (none) ?_ | refine walk_aw envR_ok (none) ?_); try simp -implicitDefEqProofs (maxSteps := 1000000) only [go_sem, ↓reduceIte, reduceCtorEq, Nat.reduceLT, Nat.reduceEqDiff, Nat.reduceBEq, Nat.reduceAdd, Nat.reduceMul, Nat.reduceSub, Nat.reduceLeDiff, Int.reduceNeg, Int.reduceLT, Int.reduceLE, Int.reduceEq, Int.reduceAdd, Int.reduceToNat, k0, n1, n2, n3, show kd 13 = 3 from rfl, his, hss, hin, hsg])
        refine rS_spec hs (by first | exact hin _ | exact hsg _ _) ?_
        rw [n3] at h
        by_cases e : s.sleb.2.err = 0
        · rw [if_pos e] at h
          ((try first | refine walk_aw env_ok (none) ?_ | refine walk_aw envR_ok (none) ?_); try simp -implicitDefEqProofs (maxSteps := 1000000) only [go_sem, ↓reduceIte, reduceCtorEq, Nat.reduceLT, Nat.reduceEqDiff, Nat.reduceBEq, Nat.reduceAdd, Nat.reduceMul, Nat.reduceSub, Nat.reduceLeDiff, Int.reduceNeg, Int.reduceLT, Int.reduceLE, Int.reduceEq, Int.reduceAdd, Int.reduceToNat, his, hss, hin, hsg, e])
          exact .inr h
        · rw [if_neg e] at h
          ((try first | refine walk_aw env_ok (none) ?_ | refine walk_aw envR_ok (none) ?_); try simp -implicitDefEqProofs (maxSteps := 1000000) only [go_sem, ↓reduceIte, reduceCtorEq, Nat.reduceLT, Nat.reduceEqDiff, Nat.reduceBEq, Nat.reduceAdd, Nat.reduceMul, Nat.reduceSub, Nat.reduceLeDiff, Int.reduceNeg, Int.reduceLT, Int.reduceLE, Int.reduceEq, Int.reduceAdd, Int.reduceToNat, his, hss, hin, hsg, e])
          exact .inr h
      by_cases n4 : f = 8
      · rw [rawVal, if_neg n1, if_neg n2, if_neg n3, if_pos (kd5.2 n4)] at h
        simp only at h
        ((try first | refine walk_aw env_ok (none) ?_ | refine walk_aw envR_ok (none) ?_); try simp -implicitDefEqProofs (maxSteps := 1000000) only [go_sem, ↓reduceIte, reduceCtorEq, Nat.reduceLT, Nat.reduceEqDiff, Nat.reduceBEq, Nat.reduceAdd, Nat.reduceMul, Nat.reduceSub, Nat.reduceLeDiff, Int.reduceNeg, Int.reduceLT, Int.reduceLE, Int.reduceEq, Int.reduceAdd, Int.reduceToNat, k0, n1, n2, n3, n4, show kd 8 = 5 from rfl, his, hss, hin, hsg])
        refine rText_spec hs hb (by first | exact hin _ | exact hsg _ _) ?_
        rw [n4] at h
        by_cases e : s.text.2.err = 0
        · rw [if_pos e] at h
          ((try first | refine walk_aw env_ok (none) ?_ | refine walk_aw envR_ok (none) ?_); try simp -implicitDefEqProofs (maxSteps := 1000000) only [go_sem, ↓reduceIte, reduceCtorEq, Nat.reduceLT, Nat.reduceEqDiff, Nat.reduceBEq, Nat.reduceAdd, Nat.reduceMul, Nat.reduceSub, Nat.reduceLeDiff, Int.reduceNeg, Int.reduceLT, Int.reduceLE, Int.reduceEq, Int.reduceAdd, Int.reduceToNat, his, hss, hin, hsg, e])
          exact .inr h
        · rw [if_neg e] at h
          ((try first | refine walk_aw env_ok (none) ?_ | refine walk_aw envR_ok (none) ?_); try simp -implicitDefEqProofs (maxSteps := 1000000) only [go_sem, ↓reduceIte, reduceCtorEq, Nat.reduceLT, Nat.reduceEqDiff, Nat.reduceBEq, Nat.reduceAdd, Nat.reduceMul, Nat.reduceSub, Nat.reduceLeDiff, Int.reduceNeg, Int.reduceLT, Int.reduceLE, Int.reduceEq, Int.reduceAdd, Int.reduceToNat, his, hss, hin, hsg, e])
          exact .inr h
      have n4' : ¬ kd f = 5 := fun hc => n4 (kd5.1 hc)
      by_cases n5 : f = 30
      · rw [rawVal, if_neg n1, if_neg n2, if_neg n3, if_neg n4', if_pos n5] at h
        simp only at h
        ((try first | refine walk_aw env_ok (none) ?_ | refine walk_aw envR_ok (none) ?_); try simp -implicitDefEqProofs (maxSteps := 1000000) only [go_sem, ↓reduceIte, reduceCtorEq, Nat.reduceLT, Nat.reduceEqDiff, Nat.reduceBEq, Nat.reduceAdd, Nat.reduceMul, Nat.reduceSub, Nat.reduceLeDiff, Int.reduceNeg, Int.reduceLT, Int.reduceLE, Int.reduceEq, Int.reduceAdd, Int.reduceToNat, k0, n1, n2, n3, n4, n5, show kd 30 = 9 from rfl, his, hss, hin, hsg])
        refine rbytes16 hb hs (by first | exact hin _ | exact hsg _ _) ?_
        rw [n5] at h
        by_cases e : (s.take 16).2.err = 0
        · rw [if_pos e] at h
          ((try first | refine walk_aw env_ok (none) ?_ | refine walk_aw envR_ok (none) ?_); try simp -implicitDefEqProofs (maxSteps := 1000000) only [go_sem, ↓reduceIte, reduceCtorEq, Nat.reduceLT, Nat.reduceEqDiff, Nat.reduceBEq, Nat.reduceAdd, Nat.reduceMul, Nat.reduceSub, Nat.reduceLeDiff, Int.reduceNeg, Int.reduceLT, Int.reduceLE, Int.reduceEq, Int.reduceAdd, Int.reduceToNat, his, hss, hin, hsg, e])
          exact .inr h
        · rw [if_neg e] at h
          ((try first | refine walk_aw env_ok (none) ?_ | refine walk_aw envR_ok (none) ?_); try simp -implicitDefEqProofs (maxSteps := 1000000) only [go_sem, ↓reduceIte, reduceCtorEq, Nat.reduceLT, Nat.reduceEqDiff, Nat.reduceBEq, Nat.reduceAdd, Nat.reduceMul, Nat.reduceSub, Nat.reduceLeDiff, Int.reduceNeg, Int.reduceLT, Int.reduceLE, Int.reduceEq, Int.reduceAdd, Int.reduceToNat, his, hss, hin, hsg, e])
          exact .inr h
      rw [rawVal, if_neg n1, if_neg n2, if_neg n3, if_neg n4', if_neg n5] at h
      have hnr := num_rel (s := s) (w := w) k0 n1 n2 n3 n4 n5
      by_cases n6 : kd f = 9 ∨ kd f = 10
      · rw [if_pos n6] at h
        simp only at h
        have hok2 := CS.Ok.num hs (szf f) w
        have hnb := CS.num_b hs (szf f) w
        have hlt2 := CS.num_lt hs (szf f) w
        have n7 : kd f = 9 ∨ ¬ kd f = 9 ∧ kd f = 10 := by omega
        rcases n7 with n7 | ⟨n7, n8⟩
        · ((try first | refine walk_aw env_ok (none) ?_ | refine walk_aw envR_ok (none) ?_); try simp -implicitDefEqProofs (maxSteps := 1000000) only [go_sem, ↓reduceIte, reduceCtorEq, Nat.reduceLT, Nat.reduceEqDiff, Nat.reduceBEq, Nat.reduceAdd, Nat.reduceMul, Nat.reduceSub, Nat.reduceLeDiff, Int.reduceNeg, Int.reduceLT, Int.reduceLE, Int.reduceEq, Int.reduceAdd, Int.reduceToNat, k0, n1, n2, n3, n4, n5, n7, his, hss])
          refine rnumber_spec hs (by first | exact hin _ | exact hsg _ _) ?_
          rw [hnr]
          by_cases g1 : (s.num (szf f) w).1 > 65536
          · rw [if_pos g1] at h
            have g2 : (((s.num (szf f) w).1 : Nat) : Int) > 65536 := by omega
            ((try first | refine walk_aw env_ok (none) ?_ | refine walk_aw envR_ok (none) ?_); try simp -implicitDefEqProofs (maxSteps := 1000000) only [go_sem, ↓reduceIte, reduceCtorEq, Nat.reduceLT, Nat.reduceEqDiff, Nat.reduceBEq, Nat.reduceAdd, Nat.reduceMul, Nat.reduceSub, Nat.reduceLeDiff, Int.reduceNeg, Int.reduceLT, Int.reduceLE, Int.reduceEq, Int.reduceAdd, Int.reduceToNat, his, hss, g2])
            refine rFail_spec (hsg _ _) ?_
            ((try first | refine walk_aw env_ok (none) ?_ | refine walk_aw envR_ok (none) ?_); try simp -implicitDefEqProofs (maxSteps := 1000000) only [go_sem, ↓reduceIte, reduceCtorEq, Nat.reduceLT, Nat.reduceEqDiff, Nat.reduceBEq, Nat.reduceAdd, Nat.reduceMul, Nat.reduceSub, Nat.reduceLeDiff, Int.reduceNeg, Int.reduceLT, Int.reduceLE, Int.reduceEq, Int.reduceAdd, Int.reduceToNat, hss])
            refine rBytes_spec hlt2 (hok2.fail (by omega) (by omega)) (by rw [CS.fail_b, hnb]; exact hb) (hsg _ _) ?_
            by_cases e : (((s.num (szf f) w).2.fail 3).take (s.num (szf f) w).1).2.err = 0
            · rw [if_pos e] at h
              ((try first | refine walk_aw env_ok (none) ?_ | refine walk_aw envR_ok (none) ?_); try simp -implicitDefEqProofs (maxSteps := 1000000) only [go_sem, ↓reduceIte, reduceCtorEq, Nat.reduceLT, Nat.reduceEqDiff, Nat.reduceBEq, Nat.reduceAdd, Nat.reduceMul, Nat.reduceSub, Nat.reduceLeDiff, Int.reduceNeg, Int.reduceLT, Int.reduceLE, Int.reduceEq, Int.reduceAdd, Int.reduceToNat, his, hss, hin, hsg, e])
              exact .inr h
            · rw [if_neg e] at h
              ((try first | refine walk_aw env_ok (none) ?_ | refine walk_aw envR_ok (none) ?_); try simp -implicitDefEqProofs (maxSteps := 1000000) only [go_sem, ↓reduceIte, reduceCtorEq, Nat.reduceLT, Nat.reduceEqDiff, Nat.reduceBEq, Nat.reduceAdd, Nat.reduceMul, Nat.reduceSub, Nat.reduceLeDiff, Int.reduceNeg, Int.reduceLT, Int.reduceLE, Int.reduceEq, Int.reduceAdd, Int.reduceToNat, his, hss, hin, hsg, e])
              exact .inr h
          · rw [if_neg g1] at h
            have g2 : ¬ (((s.num (szf f) w).1 : Nat) : Int) > 65536 := by omega
            ((try first | refine walk_aw env_ok (none) ?_ | refine walk_aw envR_ok (none) ?_); try simp -implicitDefEqProofs (maxSteps := 1000000) only [go_sem, ↓reduceIte, reduceCtorEq, Nat.reduceLT, Nat.reduceEqDiff, Nat.reduceBEq, Nat.reduceAdd, Nat.reduceMul, Nat.reduceSub, Nat.reduceLeDiff, Int.reduceNeg, Int.reduceLT, Int.reduceLE, Int.reduceEq, Int.reduceAdd, Int.reduceToNat, his, hss, g2])
            refine rBytes_spec hlt2 hok2 (by rw [hnb]; exact hb) (hsg _ _) ?_
            by_cases e : ((s.num (szf f) w).2.take (s.num (szf f) w).1).2.err = 0
            · rw [if_pos e] at h
              ((try first | refine walk_aw env_ok (none) ?_ | refine walk_aw envR_ok (none) ?_); try simp -implicitDefEqProofs (maxSteps := 1000000) only [go_sem, ↓reduceIte, reduceCtorEq, Nat.reduceLT, Nat.reduceEqDiff, Nat.reduceBEq, Nat.reduceAdd, Nat.reduceMul, Nat.reduceSub, Nat.reduceLeDiff, Int.reduceNeg, Int.reduceLT, Int.reduceLE, Int.reduceEq, Int.reduceAdd, Int.reduceToNat, his, hss, hin, hsg, e])
              exact .inr h
            · rw [if_neg e] at h
              ((try first | refine walk_aw env_ok (none) ?_ | refine walk_aw envR_ok (none) ?_); try simp -implicitDefEqProofs (maxSteps := 1000000) only [go_sem, ↓reduceIte, reduceCtorEq, Nat.reduceLT, Nat.reduceEqDiff, Nat.reduceBEq, Nat.reduceAdd, Nat.reduceMul, Nat.reduceSub, Nat.reduceLeDiff, Int.reduceNeg, Int.reduceLT, Int.reduceLE, Int.reduceEq, Int.reduceAdd, Int.reduceToNat, his, hss, hin, hsg, e])
              exact .inr h
        · ((try first | refine walk_aw env_ok (none) ?_ | refine walk_aw envR_ok (none) ?_); try simp -implicitDefEqProofs (maxSteps := 1000000) only [go_sem, ↓reduceIte, reduceCtorEq, Nat.reduceLT, Nat.reduceEqDiff, Nat.reduceBEq, Nat.reduceAdd, Nat.reduceMul, Nat.reduceSub, Nat.reduceLeDiff, Int.reduceNeg, Int.reduceLT, Int.reduceLE, Int.reduceEq, Int.reduceAdd, Int.reduceToNat, k0, n1, n2, n3, n4, n5, n7, n8, his, hss])
          refine rnumber_spec hs (by first | exact hin _ | exact hsg _ _) ?_
          rw [hnr]
          by_cases g1 : (s.num (szf f) w).1 > 65536
          · rw [if_pos g1] at h
            have g2 : (((s.num (szf f) w).1 : Nat) : Int) > 65536 := by omega
            ((try first | refine walk_aw env_ok (none) ?_ | refine walk_aw envR_ok (none) ?_); try simp -implicitDefEqProofs (maxSteps := 1000000) only [go_sem, ↓reduceIte, reduceCtorEq, Nat.reduceLT, Nat.reduceEqDiff, Nat.reduceBEq, Nat.reduceAdd, Nat.reduceMul, Nat.reduceSub, Nat.reduceLeDiff, Int.reduceNeg, Int.reduceLT, Int.reduceLE, Int.reduceEq, Int.reduceAdd, Int.reduceToNat, his, hss, g2])
            refine rFail_spec (hsg _ _) ?_
            ((try first | refine walk_aw env_ok (none) ?_ | refine walk_aw envR_ok (none) ?_); try simp -implicitDefEqProofs (maxSteps := 1000000) only [go_sem, ↓reduceIte, reduceCtorEq, Nat.reduceLT, Nat.reduceEqDiff, Nat.reduceBEq, Nat.reduceAdd, Nat.reduceMul, Nat.reduceSub, Nat.reduceLeDiff, Int.reduceNeg, Int.reduceLT, Int.reduceLE, Int.reduceEq, Int.reduceAdd, Int.reduceToNat, hss])
            refine rBytes_spec hlt2 (hok2.fail (by omega) (by omega)) (by rw [CS.fail_b, hnb]; exact hb) (hsg _ _) ?_
            by_cases e : (((s.num (szf f) w).2.fail 3).take (s.num (szf f) w).1).2.err = 0
            · rw [if_pos e] at h
              ((try first | refine walk_aw env_ok (none) ?_ | refine walk_aw envR_ok (none) ?_); try simp -implicitDefEqProofs (maxSteps := 1000000) only [go_sem, ↓reduceIte, reduceCtorEq, Nat.reduceLT, Nat.reduceEqDiff, Nat.reduceBEq, Nat.reduceAdd, Nat.reduceMul, Nat.reduceSub, Nat.reduceLeDiff, Int.reduceNeg, Int.reduceLT, Int.reduceLE, Int.reduceEq, Int.reduceAdd, Int.reduceToNat, his, hss, hin, hsg, e])
              exact .inr h
            · rw [if_neg e] at h
              ((try first | refine walk_aw env_ok (none) ?_ | refine walk_aw envR_ok (none) ?_); try simp -implicitDefEqProofs (maxSteps := 1000000) only [go_sem, ↓reduceIte, reduceCtorEq, Nat.reduceLT, Nat.reduceEqDiff, Nat.reduceBEq, Nat.reduceAdd, Nat.reduceMul, Nat.reduceSub, Nat.reduceLeDiff, Int.reduceNeg, Int.reduceLT, Int.reduceLE, Int.reduceEq, Int.reduceAdd, Int.reduceToNat, his, hss, hin, hsg, e])
              exact .inr h
          · rw [if_neg g1] at h
            have g2 : ¬ (((s.num (szf f) w).1 : Nat) : Int) > 65536 := by omega
            ((try first | refine walk_aw env_ok (none) ?_ | refine walk_aw envR_ok (none) ?_); try simp -implicitDefEqProofs (maxSteps := 1000000) only [go_sem, ↓reduceIte, reduceCtorEq, Nat.reduceLT, Nat.reduceEqDiff, Nat.reduceBEq, Nat.reduceAdd, Nat.reduceMul, Nat.reduceSub, Nat.reduceLeDiff, Int.reduceNeg, Int.reduceLT, Int.reduceLE, Int.reduceEq, Int.reduceAdd, Int.reduceToNat, his, hss, g2])
            refine rBytes_spec hlt2 hok2 (by rw [hnb]; exact hb) (hsg _ _) ?_
            by_cases e : ((s.num (szf f) w).2.take (s.num (szf f) w).1).2.err = 0
            · rw [if_pos e] at h
              ((try first | refine walk_aw env_ok (none) ?_ | refine walk_aw envR_ok (none) ?_); try simp -implicitDefEqProofs (maxSteps := 1000000) only [go_sem, ↓reduceIte, reduceCtorEq, Nat.reduceLT, Nat.reduceEqDiff, Nat.reduceBEq, Nat.reduceAdd, Nat.reduceMul, Nat.reduceSub, Nat.reduceLeDiff, Int.reduceNeg, Int.reduceLT, Int.reduceLE, Int.reduceEq, Int.reduceAdd, Int.reduceToNat, his, hss, hin, hsg, e])
              exact .inr h
            · rw [if_neg e] at h
              ((try first | refine walk_aw env_ok (none) ?_ | refine walk_aw envR_ok (none) ?_); try simp -implicitDefEqProofs (maxSteps := 1000000) only [go_sem, ↓reduceIte, reduceCtorEq, Nat.reduceLT, Nat.reduceEqDiff, Nat.reduceBEq, Nat.reduceAdd, Nat.reduceMul, Nat.reduceSub, Nat.reduceLeDiff, Int.reduceNeg, Int.reduceLT, Int.reduceLE, Int.reduceEq, Int.reduceAdd, Int.reduceToNat, his, hss, hin, hsg, e])
              exact .inr h
      · rw [if_neg n6] at h
        simp only at h
        have n7 : ¬ kd f = 9 := fun hc => n6 (.inl hc)
        have n8 : ¬ kd f = 10 := fun hc => n6 (.inr hc)
        by_cases e0 : s.err = 0
        · ((try first | refine walk_aw env_ok (none) ?_ | refine walk_aw envR_ok (none) ?_); try simp -implicitDefEqProofs (maxSteps := 1000000) only [go_sem, ↓reduceIte, reduceCtorEq, Nat.reduceLT, Nat.reduceEqDiff, Nat.reduceBEq, Nat.reduceAdd, Nat.reduceMul, Nat.reduceSub, Nat.reduceLeDiff, Int.reduceNeg, Int.reduceLT, Int.reduceLE, Int.reduceEq, Int.reduceAdd, Int.reduceToNat, k0, n1, n2, n3, n4, n5, n7, n8, his, hss, hin, hsg, e0])
          refine rnumber_spec hs (by first | exact hin _ | exact hsg _ _) ?_
          rw [hnr]
          by_cases e : (s.num (szf f) w).2.err = 0
          · rw [if_pos e] at h
            ((try first | refine walk_aw env_ok (none) ?_ | refine walk_aw envR_ok (none) ?_); try simp -implicitDefEqProofs (maxSteps := 1000000) only [go_sem, ↓reduceIte, reduceCtorEq, Nat.reduceLT, Nat.reduceEqDiff, Nat.reduceBEq, Nat.reduceAdd, Nat.reduceMul, Nat.reduceSub, Nat.reduceLeDiff, Int.reduceNeg, Int.reduceLT, Int.reduceLE, Int.reduceEq, Int.reduceAdd, Int.reduceToNat, his, hss, hin, hsg, e])
            exact .inr h
          · rw [if_neg e] at h
            ((try first | refine walk_aw env_ok (none) ?_ | refine walk_aw envR_ok (none) ?_); try simp -implicitDefEqProofs (maxSteps := 1000000) only [go_sem, ↓reduceIte, reduceCtorEq, Nat.reduceLT, Nat.reduceEqDiff, Nat.reduceBEq, Nat.reduceAdd, Nat.reduceMul, Nat.reduceSub, Nat.reduceLeDiff, Int.reduceNeg, Int.reduceLT, Int.reduceLE, Int.reduceEq, Int.reduceAdd, Int.reduceToNat, his, hss, hin, hsg, e])
            exact .inr h
        · rw [CS.num_err e0, if_neg e0] at h
          simp only at h
          rw [set_same hp] at h
          ((try first | refine walk_aw env_ok (none) ?_ | refine walk_aw envR_ok (none) ?_); try simp -implicitDefEqProofs (maxSteps := 1000000) only [go_sem, ↓reduceIte, reduceCtorEq, Nat.reduceLT, Nat.reduceEqDiff, Nat.reduceBEq, Nat.reduceAdd, Nat.reduceMul, Nat.reduceSub, Nat.reduceLeDiff, Int.reduceNeg, Int.reduceLT, Int.reduceLE, Int.reduceEq, Int.reduceAdd, Int.reduceToNat, k0, n1, n2, n3, n4, n5, n7, n8, his, hss, hin, hsg, e0])
          exact .inr h
end
end Go.Ab
end

section
/- Package raw: which values may be. -/
namespace Go.Ab
open V Go.Proofs
set_option maxHeartbeats 4000000
set_option maxRecDepth 10000
set_option linter.unusedSimpArgs false
set_option linter.unusedVariables false

structure RV.In (r : RV) : Prop where
  u : r.u < 18446744073709551616
  s : -9223372036854775808 ≤ r.s ∧ r.s < 9223372036854775808
  b : r.b.length < 140737488355000
  t : r.t.size ≤ 9223372036854775807

/-- Does a number fit in a size? -/
def zz (z : Int) (w : Bool) : Int := if z = -2 then (if w then 8 else 4) else z
def fitsR (n : Nat) (z : Int) (w : Bool) : Bool := decide (zz z w = -1 ∨ zz z w ≥ 8 ∨ n / 256 ^ (zz z w).toNat = 0)
def rawRight (r : RV) (w : Bool) : Bool :=
  if kd r.form = 0 ∨ (kd r.form ≠ 3 ∧ r.s ≠ 0) ∨ (kd r.form ≠ 5 ∧ r.t ≠ ⟨#[]⟩) ∨ (kd r.form ≠ 9 ∧ kd r.form ≠ 10 ∧ r.b.length > 0) then false
  else if r.form = 25 then decide (r.u = 1)
  else if kd r.form = 3 ∨ kd r.form = 5 then decide (r.u = 0) && textOk r.t
  else if r.form = 30 then decide (r.u = 0) && decide (r.b.length = 16)
  else if kd r.form = 9 ∨ kd r.form = 10 then decide (r.u = 0) && (decide (r.b.length ≤ 65536) && fitsR r.b.length (szf r.form) w)
  else fitsR r.u (szf r.form) w

section
variable {H : Heap} {Q : A → Heap → Prop}
theorem room_spec {n : Nat} {z : Int} {w : Bool} (hn : n < 18446744073709551616) (hz : z = -1 ∨ z = -2 ∨ (1 ≤ z ∧ z ≤ 8)) (h : Q (.bool (fitsR n z w)) H) : AC Tryd.prog 39 [.int .u64 n, .int .i64 z, .bool w] H Q := by
  have main : ∀ y : Int, y = -1 ∨ (1 ≤ y ∧ y ≤ 8) → zz z w = y → (y = -1 ∧ fitsR n z w = true) ∨ (y = 8 ∧ fitsR n z w = true) ∨ ∃ k : Nat, 1 ≤ k ∧ k < 8 ∧ y = (k : Int) ∧ fitsR n z w = decide (((n / 256 ^ k : Nat) : Int) = 0) := by
    intro y hy e
    rcases hy with hy | hy
    · left; exact ⟨hy, by rw [fitsR, e, hy]; simp⟩
    · by_cases c : y = 8
      · right; left; exact ⟨c, by rw [fitsR, e, c]; simp⟩
      · right; right
        refine ⟨y.toNat, by omega, by omega, by omega, ?_⟩
        rw [fitsR, e]
        apply decide_eq_decide.2
        constructor
        · intro hh; rcases hh with hh | hh | hh
          · omega
          · omega
          · rw [hh]; rfl
        · intro hh; right; right; omega
  refine AC.enter (E := env Tryd.prog 25 (fun _ => .copy) (fun _ => false)) env_ok Tryd.func39 rfl rfl rfl (by simp only [List.length_cons, List.length_nil]; exact of_decide_eq_true rfl) ?_
  by_cases c : z = -2
  · have hzz : zz z w = if w then 8 else 4 := by rw [zz, if_pos c]
    ((try first | refine walk_aw env_ok (none) ?_ | refine walk_aw envR_ok (none) ?_); try simp -implicitDefEqProofs (maxSteps := 1000000) only [go_sem, ↓reduceIte, reduceCtorEq, Nat.reduceLT, Nat.reduceEqDiff, Nat.reduceBEq, Nat.reduceAdd, Nat.reduceMul, Nat.reduceSub, Nat.reduceLeDiff, Int.reduceNeg, Int.reduceLT, Int.reduceLE, Int.reduceEq, Int.reduceAdd, Int.reduceToNat, c])
    refine Off_spec ?_
    rcases main _ (by cases w <;> simp) hzz with ⟨a, b⟩ | ⟨a, b⟩ | ⟨k, k1, k2, a, b⟩
    · cases w <;> simp at a
    · rw [b] at h
      rw [a]
      ((try first | refine walk_aw env_ok (none) ?_ | refine walk_aw envR_ok (none) ?_); try simp -implicitDefEqProofs (maxSteps := 1000000) only [go_sem, ↓reduceIte, reduceCtorEq, Nat.reduceLT, Nat.reduceEqDiff, Nat.reduceBEq, Nat.reduceAdd, Nat.reduceMul, Nat.reduceSub, Nat.reduceLeDiff, Int.reduceNeg, Int.reduceLT, Int.reduceLE, Int.reduceEq, Int.reduceAdd, Int.reduceToNat])
      exact .inl h
    · rw [b] at h
      rw [a]
      have e1 : ¬ (k : Int) = -1 := by omega
      have e2 : ¬ (k : Int) ≥ 8 := by omega
      have e3 : IntKind.i64.wrap (8 * (k : Int)) = 8 * (k : Int) := IntWalk.i64_in _ (by omega)
      have e4 : IntKind.u64.wrap (8 * (k : Int)) = 8 * (k : Int) := IntWalk.u64_in _ (by omega)
      have e5 : ¬ 8 * (k : Int) < 0 := by omega
      ((try first | refine walk_aw env_ok (none) ?_ | refine walk_aw envR_ok (none) ?_); try simp -implicitDefEqProofs (maxSteps := 1000000) only [go_sem, ↓reduceIte, reduceCtorEq, Nat.reduceLT, Nat.reduceEqDiff, Nat.reduceBEq, Nat.reduceAdd, Nat.reduceMul, Nat.reduceSub, Nat.reduceLeDiff, Int.reduceNeg, Int.reduceLT, Int.reduceLE, Int.reduceEq, Int.reduceAdd, Int.reduceToNat, e1, e2, e3, e4, e5, shr_byte n k k2])
      exact .inl h
  · have hzz : zz z w = z := by rw [zz, if_neg c]
    rcases main _ (by omega) hzz with ⟨a, b⟩ | ⟨a, b⟩ | ⟨k, k1, k2, a, b⟩
    · rw [b] at h
      subst a
      ((try first | refine walk_aw env_ok (none) ?_ | refine walk_aw envR_ok (none) ?_); try simp -implicitDefEqProofs (maxSteps := 1000000) only [go_sem, ↓reduceIte, reduceCtorEq, Nat.reduceLT, Nat.reduceEqDiff, Nat.reduceBEq, Nat.reduceAdd, Nat.reduceMul, Nat.reduceSub, Nat.reduceLeDiff, Int.reduceNeg, Int.reduceLT, Int.reduceLE, Int.reduceEq, Int.reduceAdd, Int.reduceToNat])
      exact .inl h
    · rw [b] at h
      subst a
      ((try first | refine walk_aw env_ok (none) ?_ | refine walk_aw envR_ok (none) ?_); try simp -implicitDefEqProofs (maxSteps := 1000000) only [go_sem, ↓reduceIte, reduceCtorEq, Nat.reduceLT, Nat.reduceEqDiff, Nat.reduceBEq, Nat.reduceAdd, Nat.reduceMul, Nat.reduceSub, Nat.reduceLeDiff, Int.reduceNeg, Int.reduceLT, Int.reduceLE, Int.reduceEq, Int.reduceAdd, Int.reduceToNat])
      exact .inl h
    · rw [b] at h
      subst a
      have e0 : ¬ (k : Int) = -2 := by omega
      have e1 : ¬ (k : Int) = -1 := by omega
      have e2 : ¬ (k : Int) ≥ 8 := by omega
      have e3 : IntKind.i64.wrap (8 * (k : Int)) = 8 * (k : Int) := IntWalk.i64_in _ (by omega)
      have e4 : IntKind.u64.wrap (8 * (k : Int)) = 8 * (k : Int) := IntWalk.u64_in _ (by omega)
      have e5 : ¬ 8 * (k : Int) < 0 := by omega
      ((try first | refine walk_aw env_ok (none) ?_ | refine walk_aw envR_ok (none) ?_); try simp -implicitDefEqProofs (maxSteps := 1000000) only [go_sem, ↓reduceIte, reduceCtorEq, Nat.reduceLT, Nat.reduceEqDiff, Nat.reduceBEq, Nat.reduceAdd, Nat.reduceMul, Nat.reduceSub, Nat.reduceLeDiff, Int.reduceNeg, Int.reduceLT, Int.reduceLE, Int.reduceEq, Int.reduceAdd, Int.reduceToNat, e0, e1, e2, e3, e4, e5, shr_byte n k k2])
      exact .inl h

theorem sz_ok : ∀ k : Nat, k < 45 → kindL.getD k 0 = 0 ∨ kindL.getD k 0 = 3 ∨ kindL.getD k 0 = 5 ∨ k = 25 ∨ k = 30 ∨ sizeL.getD k 0 = -1 ∨ sizeL.getD k 0 = -2 ∨ (1 ≤ sizeL.getD k 0 ∧ sizeL.getD k 0 ≤ 8) := by decide
theorem szf_ok {f : Int} (h0 : kd f ≠ 0) (h1 : kd f ≠ 3) (h2 : kd f ≠ 5) (h3 : f ≠ 25) (h4 : f ≠ 30) : szf f = -1 ∨ szf f = -2 ∨ (1 ≤ szf f ∧ szf f ≤ 8) := by
  obtain ⟨k, hk, rfl⟩ := kd_in h0
  rw [kd_nat hk] at h0 h1 h2
  rw [szf_nat hk]
  have := sz_ok k hk
  omega

theorem Right_spec {r : RV} {w : Bool} (hr : r.In) (h : Q (.bool (rawRight r w)) H) : AC Tryd.prog 18 [.agg r.cells, .bool w] H Q := by
  refine AC.enter (E := env Tryd.prog 108 (fun _ => .copy) (fun _ => false)) env_ok Tryd.func18 rfl rfl rfl (by simp only [List.length_cons, List.length_nil]; exact of_decide_eq_true rfl) ?_
  ((try first | refine walk_aw env_ok (none) ?_ | refine walk_aw envR_ok (none) ?_); try simp -implicitDefEqProofs (maxSteps := 1000000) only [go_sem, ↓reduceIte, reduceCtorEq, Nat.reduceLT, Nat.reduceEqDiff, Nat.reduceBEq, Nat.reduceAdd, Nat.reduceMul, Nat.reduceSub, Nat.reduceLeDiff, Int.reduceNeg, Int.reduceLT, Int.reduceLE, Int.reduceEq, Int.reduceAdd, Int.reduceToNat])
  refine of_spec ?_
  by_cases k0 : kd r.form = 0
  · rw [show rawRight r w = false by rw [rawRight, if_pos (.inl k0)]] at h
    ((try first | refine walk_aw env_ok (none) ?_ | refine walk_aw envR_ok (none) ?_); try simp -implicitDefEqProofs (maxSteps := 1000000) only [go_sem, ↓reduceIte, reduceCtorEq, Nat.reduceLT, Nat.reduceEqDiff, Nat.reduceBEq, Nat.reduceAdd, Nat.reduceMul, Nat.reduceSub, Nat.reduceLeDiff, Int.reduceNeg, Int.reduceLT, Int.reduceLE, Int.reduceEq, Int.reduceAdd, Int.reduceToNat, k0])
    exact .inr h
  by_cases k1 : kd r.form ≠ 3 ∧ r.s ≠ 0
  · rw [show rawRight r w = false by rw [rawRight, if_pos (.inr (.inl k1))]] at h
    obtain ⟨a1, a2⟩ := k1
    ((try first | refine walk_aw env_ok (none) ?_ | refine walk_aw envR_ok (none) ?_); try simp -implicitDefEqProofs (maxSteps := 1000000) only [go_sem, ↓reduceIte, reduceCtorEq, Nat.reduceLT, Nat.reduceEqDiff, Nat.reduceBEq, Nat.reduceAdd, Nat.reduceMul, Nat.reduceSub, Nat.reduceLeDiff, Int.reduceNeg, Int.reduceLT, Int.reduceLE, Int.reduceEq, Int.reduceAdd, Int.reduceToNat, k0, a1, a2])
    exact .inr h
  by_cases k2 : kd r.form ≠ 5 ∧ r.t ≠ ⟨#[]⟩
  · rw [show rawRight r w = false by rw [rawRight, if_pos (.inr (.inr (.inl k2)))]] at h
    obtain ⟨a1, a2⟩ := k2
    have k1' : kd r.form = 3 ∨ (¬ kd r.form = 3 ∧ r.s = 0) := by omega
    rcases k1' with b1 | ⟨b1, b2⟩
    · ((try first | refine walk_aw env_ok (none) ?_ | refine walk_aw envR_ok (none) ?_); try simp -implicitDefEqProofs (maxSteps := 1000000) only [go_sem, ↓reduceIte, reduceCtorEq, Nat.reduceLT, Nat.reduceEqDiff, Nat.reduceBEq, Nat.reduceAdd, Nat.reduceMul, Nat.reduceSub, Nat.reduceLeDiff, Int.reduceNeg, Int.reduceLT, Int.reduceLE, Int.reduceEq, Int.reduceAdd, Int.reduceToNat, k0, a1, a2, b1])
      exact .inr h
    · ((try first | refine walk_aw env_ok (none) ?_ | refine walk_aw envR_ok (none) ?_); try simp -implicitDefEqProofs (maxSteps := 1000000) only [go_sem, ↓reduceIte, reduceCtorEq, Nat.reduceLT, Nat.reduceEqDiff, Nat.reduceBEq, Nat.reduceAdd, Nat.reduceMul, Nat.reduceSub, Nat.reduceLeDiff, Int.reduceNeg, Int.reduceLT, Int.reduceLE, Int.reduceEq, Int.reduceAdd, Int.reduceToNat, k0, a1, a2, b1, b2])
      exact .inr h
  by_cases k3 : kd r.form ≠ 9 ∧ kd r.form ≠ 10 ∧ r.b.length > 0
  · rw [show rawRight r w = false by rw [rawRight, if_pos (.inr (.inr (.inr k3)))]] at h
    obtain ⟨a1, a2, a3⟩ := k3
    have a3' : (r.b.length : Int) > 0 := by omega
    by_cases b1 : kd r.form = 3
    · have b3 : r.t = ⟨#[]⟩ := by by_cases c : r.t = ⟨#[]⟩; exact c; exact absurd ⟨by omega, c⟩ k2
      ((try first | refine walk_aw env_ok (none) ?_ | refine walk_aw envR_ok (none) ?_); try simp -implicitDefEqProofs (maxSteps := 1000000) only [go_sem, ↓reduceIte, reduceCtorEq, Nat.reduceLT, Nat.reduceEqDiff, Nat.reduceBEq, Nat.reduceAdd, Nat.reduceMul, Nat.reduceSub, Nat.reduceLeDiff, Int.reduceNeg, Int.reduceLT, Int.reduceLE, Int.reduceEq, Int.reduceAdd, Int.reduceToNat, k0, a1, a2, a3', b1, b3])
      exact .inr h
    · have b2 : r.s = 0 := by omega
      by_cases b4 : kd r.form = 5
      · ((try first | refine walk_aw env_ok (none) ?_ | refine walk_aw envR_ok (none) ?_); try simp -implicitDefEqProofs (maxSteps := 1000000) only [go_sem, ↓reduceIte, reduceCtorEq, Nat.reduceLT, Nat.reduceEqDiff, Nat.reduceBEq, Nat.reduceAdd, Nat.reduceMul, Nat.reduceSub, Nat.reduceLeDiff, Int.reduceNeg, Int.reduceLT, Int.reduceLE, Int.reduceEq, Int.reduceAdd, Int.reduceToNat, k0, a1, a2, a3', b1, b2, b4])
        exact .inr h
      · have b3 : r.t = ⟨#[]⟩ := by by_cases c : r.t = ⟨#[]⟩; exact c; exact absurd ⟨by omega, c⟩ k2
        ((try first | refine walk_aw env_ok (none) ?_ | refine walk_aw envR_ok (none) ?_); try simp -implicitDefEqProofs (maxSteps := 1000000) only [go_sem, ↓reduceIte, reduceCtorEq, Nat.reduceLT, Nat.reduceEqDiff, Nat.reduceBEq, Nat.reduceAdd, Nat.reduceMul, Nat.reduceSub, Nat.reduceLeDiff, Int.reduceNeg, Int.reduceLT, Int.reduceLE, Int.reduceEq, Int.reduceAdd, Int.reduceToNat, k0, a1, a2, a3', b1, b2, b3, b4])
        exact .inr h
  rw [rawRight, if_neg (by rintro (c | c | c | c) <;> first | exact k0 c | exact k1 c | exact k2 c | exact k3 c)] at h
  -- what may be
  by_cases b1 : kd r.form = 3
  · have b3 : r.t = ⟨#[]⟩ := by by_cases c : r.t = ⟨#[]⟩; exact c; exact absurd ⟨by omega, c⟩ k2
    have b4 : ¬ (r.b.length : Int) > 0 := by omega
    have n25 : ¬ r.form = 25 := by intro c; rw [c] at b1; exact absurd b1 (by decide)
    rw [if_neg n25, if_pos (.inl b1)] at h
    by_cases c : r.u = 0
    · have c' : (r.u : Int) = 0 := by omega
      rw [decide_eq_true c, Bool.true_and, b3] at h
      ((try first | refine walk_aw env_ok (none) ?_ | refine walk_aw envR_ok (none) ?_); try simp -implicitDefEqProofs (maxSteps := 1000000) only [go_sem, ↓reduceIte, reduceCtorEq, Nat.reduceLT, Nat.reduceEqDiff, Nat.reduceBEq, Nat.reduceAdd, Nat.reduceMul, Nat.reduceSub, Nat.reduceLeDiff, Int.reduceNeg, Int.reduceLT, Int.reduceLE, Int.reduceEq, Int.reduceAdd, Int.reduceToNat, k0, b1, b3, b4, n25, c'])
      refine cstrRight_spec ?_
      ((try first | refine walk_aw env_ok (none) ?_ | refine walk_aw envR_ok (none) ?_); try simp -implicitDefEqProofs (maxSteps := 1000000) only [go_sem, ↓reduceIte, reduceCtorEq, Nat.reduceLT, Nat.reduceEqDiff, Nat.reduceBEq, Nat.reduceAdd, Nat.reduceMul, Nat.reduceSub, Nat.reduceLeDiff, Int.reduceNeg, Int.reduceLT, Int.reduceLE, Int.reduceEq, Int.reduceAdd, Int.reduceToNat])
      exact .inr h
    · have c' : ¬ (r.u : Int) = 0 := by omega
      rw [decide_eq_false c, Bool.false_and] at h
      ((try first | refine walk_aw env_ok (none) ?_ | refine walk_aw envR_ok (none) ?_); try simp -implicitDefEqProofs (maxSteps := 1000000) only [go_sem, ↓reduceIte, reduceCtorEq, Nat.reduceLT, Nat.reduceEqDiff, Nat.reduceBEq, Nat.reduceAdd, Nat.reduceMul, Nat.reduceSub, Nat.reduceLeDiff, Int.reduceNeg, Int.reduceLT, Int.reduceLE, Int.reduceEq, Int.reduceAdd, Int.reduceToNat, k0, b1, b3, b4, n25, c'])
      exact .inr h
  have b2 : r.s = 0 := by omega
  by_cases b5 : kd r.form = 5
  · have b4 : ¬ (r.b.length : Int) > 0 := by omega
    have n25 : ¬ r.form = 25 := by intro c; rw [c] at b5; exact absurd b5 (by decide)
    rw [if_neg n25, if_pos (.inr b5)] at h
    by_cases c : r.u = 0
    · have c' : (r.u : Int) = 0 := by omega
      rw [decide_eq_true c, Bool.true_and] at h
      ((try first | refine walk_aw env_ok (none) ?_ | refine walk_aw envR_ok (none) ?_); try simp -implicitDefEqProofs (maxSteps := 1000000) only [go_sem, ↓reduceIte, reduceCtorEq, Nat.reduceLT, Nat.reduceEqDiff, Nat.reduceBEq, Nat.reduceAdd, Nat.reduceMul, Nat.reduceSub, Nat.reduceLeDiff, Int.reduceNeg, Int.reduceLT, Int.reduceLE, Int.reduceEq, Int.reduceAdd, Int.reduceToNat, k0, b1, b2, b5, b4, n25, c'])
      refine cstrRight_spec ?_
      ((try first | refine walk_aw env_ok (none) ?_ | refine walk_aw envR_ok (none) ?_); try simp -implicitDefEqProofs (maxSteps := 1000000) only [go_sem, ↓reduceIte, reduceCtorEq, Nat.reduceLT, Nat.reduceEqDiff, Nat.reduceBEq, Nat.reduceAdd, Nat.reduceMul, Nat.reduceSub, Nat.reduceLeDiff, Int.reduceNeg, Int.reduceLT, Int.reduceLE, Int.reduceEq, Int.reduceAdd, Int.reduceToNat])
      exact .inr h
    · have c' : ¬ (r.u : Int) = 0 := by omega
      rw [decide_eq_false c, Bool.false_and] at h
      ((try first | refine walk_aw env_ok (none) ?_ | refine walk_aw envR_ok (none) ?_); try simp -implicitDefEqProofs (maxSteps := 1000000) only [go_sem, ↓reduceIte, reduceCtorEq, Nat.reduceLT, Nat.reduceEqDiff, Nat.reduceBEq, Nat.reduceAdd, Nat.reduceMul, Nat.reduceSub, Nat.reduceLeDiff, Int.reduceNeg, Int.reduceLT, Int.reduceLE, Int.reduceEq, Int.reduceAdd, Int.reduceToNat, k0, b1, b2, b5, b4, n25, c'])
      exact .inr h
  have b3 : r.t = ⟨#[]⟩ := by by_cases c : r.t = ⟨#[]⟩; exact c; exact absurd ⟨b5, c⟩ k2
  by_cases b6 : kd r.form = 9 ∨ kd r.form = 10
  · have n25 : ¬ r.form = 25 := by intro c; rw [c] at b6; exact absurd b6 (by decide)
    have b6' : kd r.form = 9 ∨ (¬ kd r.form = 9 ∧ kd r.form = 10) := by omega
    rw [if_neg n25, if_neg (by omega)] at h
    by_cases n30 : r.form = 30
    · rw [if_pos n30] at h
      have b7 : kd r.form = 9 := by rw [n30]; rfl
      by_cases c : r.u = 0
      · have c' : (r.u : Int) = 0 := by omega
        rw [decide_eq_true c, Bool.true_and, show decide (r.b.length = 16) = decide ((r.b.length : Int) = 16) from decide_eq_decide.2 (by omega)] at h
        ((try first | refine walk_aw env_ok (none) ?_ | refine walk_aw envR_ok (none) ?_); try simp -implicitDefEqProofs (maxSteps := 1000000) only [go_sem, ↓reduceIte, reduceCtorEq, Nat.reduceLT, Nat.reduceEqDiff, Nat.reduceBEq, Nat.reduceAdd, Nat.reduceMul, Nat.reduceSub, Nat.reduceLeDiff, Int.reduceNeg, Int.reduceLT, Int.reduceLE, Int.reduceEq, Int.reduceAdd, Int.reduceToNat, show kd 30 = 9 from rfl, b2, b3, n30, c'])
        exact .inr h
      · have c' : ¬ (r.u : Int) = 0 := by omega
        rw [decide_eq_false c, Bool.false_and] at h
        ((try first | refine walk_aw env_ok (none) ?_ | refine walk_aw envR_ok (none) ?_); try simp -implicitDefEqProofs (maxSteps := 1000000) only [go_sem, ↓reduceIte, reduceCtorEq, Nat.reduceLT, Nat.reduceEqDiff, Nat.reduceBEq, Nat.reduceAdd, Nat.reduceMul, Nat.reduceSub, Nat.reduceLeDiff, Int.reduceNeg, Int.reduceLT, Int.reduceLE, Int.reduceEq, Int.reduceAdd, Int.reduceToNat, show kd 30 = 9 from rfl, b2, b3, n30, c'])
        exact .inr h
    · rw [if_neg n30, if_pos b6] at h
      have hz := szf_ok k0 b1 b5 n25 n30
      have lw : IntKind.u64.wrap (r.b.length : Int) = (r.b.length : Int) := by have := hr.b; exact IntWalk.u64_in _ (by omega)
      rcases b6' with b7 | ⟨b7, b8⟩
      · by_cases c : r.u = 0
        · have c' : (r.u : Int) = 0 := by omega
          rw [decide_eq_true c, Bool.true_and] at h
          by_cases d : r.b.length ≤ 65536
          · have d' : (r.b.length : Int) ≤ 65536 := by omega
            rw [decide_eq_true d, Bool.true_and] at h
            ((try first | refine walk_aw env_ok (none) ?_ | refine walk_aw envR_ok (none) ?_); try simp -implicitDefEqProofs (maxSteps := 1000000) only [go_sem, ↓reduceIte, reduceCtorEq, Nat.reduceLT, Nat.reduceEqDiff, Nat.reduceBEq, Nat.reduceAdd, Nat.reduceMul, Nat.reduceSub, Nat.reduceLeDiff, Int.reduceNeg, Int.reduceLT, Int.reduceLE, Int.reduceEq, Int.reduceAdd, Int.reduceToNat, b7, b2, b3, n25, n30, c', d', lw])
            refine room_spec (by omega) hz ?_
            ((try first | refine walk_aw env_ok (none) ?_ | refine walk_aw envR_ok (none) ?_); try simp -implicitDefEqProofs (maxSteps := 1000000) only [go_sem, ↓reduceIte, reduceCtorEq, Nat.reduceLT, Nat.reduceEqDiff, Nat.reduceBEq, Nat.reduceAdd, Nat.reduceMul, Nat.reduceSub, Nat.reduceLeDiff, Int.reduceNeg, Int.reduceLT, Int.reduceLE, Int.reduceEq, Int.reduceAdd, Int.reduceToNat])
            exact .inr h
          · have d' : ¬ (r.b.length : Int) ≤ 65536 := by omega
            rw [decide_eq_false d, Bool.false_and] at h
            ((try first | refine walk_aw env_ok (none) ?_ | refine walk_aw envR_ok (none) ?_); try simp -implicitDefEqProofs (maxSteps := 1000000) only [go_sem, ↓reduceIte, reduceCtorEq, Nat.reduceLT, Nat.reduceEqDiff, Nat.reduceBEq, Nat.reduceAdd, Nat.reduceMul, Nat.reduceSub, Nat.reduceLeDiff, Int.reduceNeg, Int.reduceLT, Int.reduceLE, Int.reduceEq, Int.reduceAdd, Int.reduceToNat, b7, b2, b3, n25, n30, c', d'])
            exact .inr h
        · have c' : ¬ (r.u : Int) = 0 := by omega
          rw [decide_eq_false c, Bool.false_and] at h
          ((try first | refine walk_aw env_ok (none) ?_ | refine walk_aw envR_ok (none) ?_); try simp -implicitDefEqProofs (maxSteps := 1000000) only [go_sem, ↓reduceIte, reduceCtorEq, Nat.reduceLT, Nat.reduceEqDiff, Nat.reduceBEq, Nat.reduceAdd, Nat.reduceMul, Nat.reduceSub, Nat.reduceLeDiff, Int.reduceNeg, Int.reduceLT, Int.reduceLE, Int.reduceEq, Int.reduceAdd, Int.reduceToNat, b7, b2, b3, n25, n30, c'])
          exact .inr h
      · by_cases c : r.u = 0
        · have c' : (r.u : Int) = 0 := by omega
          rw [decide_eq_true c, Bool.true_and] at h
          by_cases d : r.b.length ≤ 65536
          · have d' : (r.b.length : Int) ≤ 65536 := by omega
            rw [decide_eq_true d, Bool.true_and] at h
            ((try first | refine walk_aw env_ok (none) ?_ | refine walk_aw envR_ok (none) ?_); try simp -implicitDefEqProofs (maxSteps := 1000000) only [go_sem, ↓reduceIte, reduceCtorEq, Nat.reduceLT, Nat.reduceEqDiff, Nat.reduceBEq, Nat.reduceAdd, Nat.reduceMul, Nat.reduceSub, Nat.reduceLeDiff, Int.reduceNeg, Int.reduceLT, Int.reduceLE, Int.reduceEq, Int.reduceAdd, Int.reduceToNat, b8, b2, b3, n25, n30, c', d', lw])
            refine room_spec (by omega) hz ?_
            ((try first | refine walk_aw env_ok (none) ?_ | refine walk_aw envR_ok (none) ?_); try simp -implicitDefEqProofs (maxSteps := 1000000) only [go_sem, ↓reduceIte, reduceCtorEq, Nat.reduceLT, Nat.reduceEqDiff, Nat.reduceBEq, Nat.reduceAdd, Nat.reduceMul, Nat.reduceSub, Nat.reduceLeDiff, Int.reduceNeg, Int.reduceLT, Int.reduceLE, Int.reduceEq, Int.reduceAdd, Int.reduceToNat])
            exact .inr h
          · have d' : ¬ (r.b.length : Int) ≤ 65536 := by omega
            rw [decide_eq_false d, Bool.false_and] at h
            ((try first | refine walk_aw env_ok (none) ?_ | refine walk_aw envR_ok (none) ?_); try simp -implicitDefEqProofs (maxSteps := 1000000) only [go_sem, ↓reduceIte, reduceCtorEq, Nat.reduceLT, Nat.reduceEqDiff, Nat.reduceBEq, Nat.reduceAdd, Nat.reduceMul, Nat.reduceSub, Nat.reduceLeDiff, Int.reduceNeg, Int.reduceLT, Int.reduceLE, Int.reduceEq, Int.reduceAdd, Int.reduceToNat, b8, b2, b3, n25, n30, c', d'])
            exact .inr h
        · have c' : ¬ (r.u : Int) = 0 := by omega
          rw [decide_eq_false c, Bool.false_and] at h
          ((try first | refine walk_aw env_ok (none) ?_ | refine walk_aw envR_ok (none) ?_); try simp -implicitDefEqProofs (maxSteps := 1000000) only [go_sem, ↓reduceIte, reduceCtorEq, Nat.reduceLT, Nat.reduceEqDiff, Nat.reduceBEq, Nat.reduceAdd, Nat.reduceMul, Nat.reduceSub, Nat.reduceLeDiff, Int.reduceNeg, Int.reduceLT, Int.reduceLE, Int.reduceEq, Int.reduceAdd, Int.reduceToNat, b8, b2, b3, n25, n30, c'])
          exact .inr h
  have b7 : ¬ kd r.form = 9 := fun c => b6 (.inl c)
  have b8 : ¬ kd r.form = 10 := fun c => b6 (.inr c)
  have b4 : ¬ (r.b.length : Int) > 0 := by omega
  by_cases n25 : r.form = 25
  · rw [if_pos n25, show decide (r.u = 1) = decide ((r.u : Int) = 1) from decide_eq_decide.2 (by omega)] at h
    ((try first | refine walk_aw env_ok (none) ?_ | refine walk_aw envR_ok (none) ?_); try simp -implicitDefEqProofs (maxSteps := 1000000) only [go_sem, ↓reduceIte, reduceCtorEq, Nat.reduceLT, Nat.reduceEqDiff, Nat.reduceBEq, Nat.reduceAdd, Nat.reduceMul, Nat.reduceSub, Nat.reduceLeDiff, Int.reduceNeg, Int.reduceLT, Int.reduceLE, Int.reduceEq, Int.reduceAdd, Int.reduceToNat, show kd 25 = 4 from rfl, b2, b3, b4, n25])
    exact .inr h
  · have n30 : ¬ r.form = 30 := by intro c; rw [c] at b7; exact absurd rfl b7
    rw [if_neg n25, if_neg (by omega), if_neg n30, if_neg b6] at h
    have hz := szf_ok k0 b1 b5 n25 n30
    ((try first | refine walk_aw env_ok (none) ?_ | refine walk_aw envR_ok (none) ?_); try simp -implicitDefEqProofs (maxSteps := 1000000) only [go_sem, ↓reduceIte, reduceCtorEq, Nat.reduceLT, Nat.reduceEqDiff, Nat.reduceBEq, Nat.reduceAdd, Nat.reduceMul, Nat.reduceSub, Nat.reduceLeDiff, Int.reduceNeg, Int.reduceLT, Int.reduceLE, Int.reduceEq, Int.reduceAdd, Int.reduceToNat, k0, b1, b5, b7, b8, b2, b3, b4, n25, n30])
    refine room_spec hr.u hz ?_
    ((try first | refine walk_aw env_ok (none) ?_ | refine walk_aw envR_ok (none) ?_); try simp -implicitDefEqProofs (maxSteps := 1000000) only [go_sem, ↓reduceIte, reduceCtorEq, Nat.reduceLT, Nat.reduceEqDiff, Nat.reduceBEq, Nat.reduceAdd, Nat.reduceMul, Nat.reduceSub, Nat.reduceLeDiff, Int.reduceNeg, Int.reduceLT, Int.reduceLE, Int.reduceEq, Int.reduceAdd, Int.reduceToNat])
    exact .inr h
end
end Go.Ab
end

section
/- Package raw: values that are put. -/
namespace Go.Ab
open V Go.Proofs
set_option maxHeartbeats 4000000
set_option maxRecDepth 10000
set_option linter.unusedSimpArgs false
set_option linter.unusedVariables false

/-- The bytes of a text. -/
def txt (s : ByteArray) : List UInt8 := s.data.toList
theorem txt_len (s : ByteArray) : (txt s).length = s.size := by simp [txt]
theorem txt_map (s : ByteArray) : s.data.toList.map byteA = bA (txt s) := rfl
theorem bA_cat (l m : List UInt8) : bA l ++ bA m = bA (l ++ m) := by simp [bA]
theorem bA_zero (l : List UInt8) : bA l ++ ([V.int .u8 0] : List A) = bA (l ++ [0]) := by simp [bA, byteA]
attribute [go_sem] txt_map bA_cat bA_zero
/-- The bytes of a number of a size. -/
def numB (n : Nat) (z : Int) (w : Bool) : List UInt8 := if z = -1 then putU n else leB (min (max (zz z w) 0) 8).toNat n
theorem numB_len {n : Nat} (hn : n < 18446744073709551616) (z : Int) (w : Bool) : (numB n z w).length ≤ 10 := by
  unfold numB; split
  · exact putU_le hn
  · rw [leB_length]; omega
def rawPut (r : RV) (w : Bool) : List UInt8 :=
  if r.form = 13 then putS r.s
  else if kd r.form = 5 then txt r.t ++ [0]
  else if r.form = 30 then r.b
  else if kd r.form = 9 ∨ kd r.form = 10 then numB r.b.length (szf r.form) w ++ r.b
  else if r.form ≠ 33 ∧ r.form ≠ 25 then numB r.u (szf r.form) w else []

section
variable {H : Heap} {Q : A → Heap → Prop}
theorem tPut_spec {b : List UInt8} {k : Nat} {s : ByteArray} (hb : b.length < 140737488355000) (hk : k ≤ b.length) (ht : textOk s = true) (h : Q (.sl (bA (b ++ (txt s ++ [0]))) (some k) ()) H) :
    AC Tryd.prog 33 [.sl (bA b) (some k) (), .str s] H Q := by
  rw [textOk, Bool.and_eq_true, decide_eq_true_eq, decide_eq_true_eq] at ht
  have hneg := (firstIdx_neg s 0).2 ht.1
  have hsz := ht.2
  have htl := txt_len s
  refine AC.enter (E := env Tryd.prog 18 (fun t => if t == 13 then .take else .copy) (fun _ => false)) env_ok Tryd.func33 rfl rfl rfl (by simp only [List.length_cons, List.length_nil]; exact of_decide_eq_true rfl) ?_
  ((try first | refine walk_aw env_ok (none) ?_ | refine walk_aw envR_ok (none) ?_); try simp -implicitDefEqProofs (maxSteps := 1000000) only [go_sem, ↓reduceIte, reduceCtorEq, Nat.reduceLT, Nat.reduceEqDiff, Nat.reduceBEq, Nat.reduceAdd, Nat.reduceMul, Nat.reduceSub, Nat.reduceLeDiff, Int.reduceNeg, Int.reduceLT, Int.reduceLE, Int.reduceEq, Int.reduceAdd, Int.reduceToNat])
  refine IndexByte_spec ?_
  rw [show ((0 : Int).toNat.toUInt8) = 0 from rfl]
  have e1 : ¬ firstIdx s 0 ≥ 0 := by omega
  have e2 : b.length + s.size ≤ 140737488355328 := by omega
  have e3 : (b ++ txt s).length ≤ 140737488355327 := by rw [List.length_append, htl]; omega
  have e4 : k ≤ (b ++ txt s).length := by rw [List.length_append]; omega
  ((try first | refine walk_aw env_ok (none) ?_ | refine walk_aw envR_ok (none) ?_); try simp -implicitDefEqProofs (maxSteps := 1000000) only [go_sem, ↓reduceIte, reduceCtorEq, Nat.reduceLT, Nat.reduceEqDiff, Nat.reduceBEq, Nat.reduceAdd, Nat.reduceMul, Nat.reduceSub, Nat.reduceLeDiff, Int.reduceNeg, Int.reduceLT, Int.reduceLE, Int.reduceEq, Int.reduceAdd, Int.reduceToNat, e1, e2, e3, e4, hk])
  rw [List.append_assoc]
  exact .inl h

theorem put_n_spec {b : List UInt8} {k n : Nat} {z : Int} {w : Bool} (hb : b.length < 140737488355000) (hk : k ≤ b.length) (hn : n < 18446744073709551616)
    (h : Q (.sl (bA (b ++ numB n z w)) (some k) ()) H) : AC Tryd.prog 34 [.sl (bA b) (some k) (), .int .u64 n, .int .i64 z, .bool w] H Q := by
  refine AC.enter (E := env Tryd.prog 26 (fun t => if t == 12 || t == 17 || t == 22 then .take else .copy) (fun _ => false)) env_ok Tryd.func34 rfl rfl rfl (by simp only [List.length_cons, List.length_nil]; exact of_decide_eq_true rfl) ?_
  ((try first | refine walk_aw env_ok (none) ?_ | refine walk_aw envR_ok (none) ?_); try simp -implicitDefEqProofs (maxSteps := 1000000) only [go_sem, ↓reduceIte, reduceCtorEq, Nat.reduceLT, Nat.reduceEqDiff, Nat.reduceBEq, Nat.reduceAdd, Nat.reduceMul, Nat.reduceSub, Nat.reduceLeDiff, Int.reduceNeg, Int.reduceLT, Int.reduceLE, Int.reduceEq, Int.reduceAdd, Int.reduceToNat])
  rw [numB] at h
  by_cases e1 : z = -1
  · rw [if_pos e1] at h
    ((try first | refine walk_aw env_ok (none) ?_ | refine walk_aw envR_ok (none) ?_); try simp -implicitDefEqProofs (maxSteps := 1000000) only [go_sem, ↓reduceIte, reduceCtorEq, Nat.reduceLT, Nat.reduceEqDiff, Nat.reduceBEq, Nat.reduceAdd, Nat.reduceMul, Nat.reduceSub, Nat.reduceLeDiff, Int.reduceNeg, Int.reduceLT, Int.reduceLE, Int.reduceEq, Int.reduceAdd, Int.reduceToNat, e1])
    refine PutU_spec hb hk hn ?_
    ((try first | refine walk_aw env_ok (none) ?_ | refine walk_aw envR_ok (none) ?_); try simp -implicitDefEqProofs (maxSteps := 1000000) only [go_sem, ↓reduceIte, reduceCtorEq, Nat.reduceLT, Nat.reduceEqDiff, Nat.reduceBEq, Nat.reduceAdd, Nat.reduceMul, Nat.reduceSub, Nat.reduceLeDiff, Int.reduceNeg, Int.reduceLT, Int.reduceLE, Int.reduceEq, Int.reduceAdd, Int.reduceToNat])
    exact .inl h
  · rw [if_neg e1] at h
    by_cases e2 : z = -2
    · rw [zz, if_pos e2] at h
      ((try first | refine walk_aw env_ok (none) ?_ | refine walk_aw envR_ok (none) ?_); try simp -implicitDefEqProofs (maxSteps := 1000000) only [go_sem, ↓reduceIte, reduceCtorEq, Nat.reduceLT, Nat.reduceEqDiff, Nat.reduceBEq, Nat.reduceAdd, Nat.reduceMul, Nat.reduceSub, Nat.reduceLeDiff, Int.reduceNeg, Int.reduceLT, Int.reduceLE, Int.reduceEq, Int.reduceAdd, Int.reduceToNat, e1, e2])
      refine Off_spec ?_
      ((try first | refine walk_aw env_ok (none) ?_ | refine walk_aw envR_ok (none) ?_); try simp -implicitDefEqProofs (maxSteps := 1000000) only [go_sem, ↓reduceIte, reduceCtorEq, Nat.reduceLT, Nat.reduceEqDiff, Nat.reduceBEq, Nat.reduceAdd, Nat.reduceMul, Nat.reduceSub, Nat.reduceLeDiff, Int.reduceNeg, Int.reduceLT, Int.reduceLE, Int.reduceEq, Int.reduceAdd, Int.reduceToNat])
      refine cPut_spec hb hk hn ?_
      ((try first | refine walk_aw env_ok (none) ?_ | refine walk_aw envR_ok (none) ?_); try simp -implicitDefEqProofs (maxSteps := 1000000) only [go_sem, ↓reduceIte, reduceCtorEq, Nat.reduceLT, Nat.reduceEqDiff, Nat.reduceBEq, Nat.reduceAdd, Nat.reduceMul, Nat.reduceSub, Nat.reduceLeDiff, Int.reduceNeg, Int.reduceLT, Int.reduceLE, Int.reduceEq, Int.reduceAdd, Int.reduceToNat])
      exact .inl h
    · rw [zz, if_neg e2] at h
      ((try first | refine walk_aw env_ok (none) ?_ | refine walk_aw envR_ok (none) ?_); try simp -implicitDefEqProofs (maxSteps := 1000000) only [go_sem, ↓reduceIte, reduceCtorEq, Nat.reduceLT, Nat.reduceEqDiff, Nat.reduceBEq, Nat.reduceAdd, Nat.reduceMul, Nat.reduceSub, Nat.reduceLeDiff, Int.reduceNeg, Int.reduceLT, Int.reduceLE, Int.reduceEq, Int.reduceAdd, Int.reduceToNat, e1, e2])
      refine cPut_spec hb hk hn ?_
      ((try first | refine walk_aw env_ok (none) ?_ | refine walk_aw envR_ok (none) ?_); try simp -implicitDefEqProofs (maxSteps := 1000000) only [go_sem, ↓reduceIte, reduceCtorEq, Nat.reduceLT, Nat.reduceEqDiff, Nat.reduceBEq, Nat.reduceAdd, Nat.reduceMul, Nat.reduceSub, Nat.reduceLeDiff, Int.reduceNeg, Int.reduceLT, Int.reduceLE, Int.reduceEq, Int.reduceAdd, Int.reduceToNat])
      exact .inl h

theorem right_text {r : RV} {w : Bool} (h : rawRight r w = true) (h5 : kd r.form = 5) : textOk r.t = true := by
  unfold rawRight at h
  split at h
  · cases h
  · split at h
    · rename_i c; rw [c] at h5; exact absurd h5 (by decide)
    · rw [if_pos (.inr h5), Bool.and_eq_true] at h; exact h.2

theorem Put_spec {b : List UInt8} {k : Nat} {r : RV} {w : Bool} (hb : b.length < 70368744177000) (hk : k ≤ b.length) (hr : r.In) (hrb : r.b.length < 70368744177000)
    (h0 : rawRight r w = false → Q (.tup [.sl [] (some 0) (), .int .i64 2]) H) (h : rawRight r w = true → Q (.tup [.sl (bA (b ++ rawPut r w)) (some k) (), .int .i64 0]) H) :
    AC Tryd.prog 16 [.sl (bA b) (some k) (), .agg r.cells, .bool w] H Q := by
  refine AC.enter (E := env Tryd.prog 78 (fun t => if t == 20 || t == 28 || t == 36 || t == 49 || t == 70 || t == 77 then .take else .copy) (fun _ => false)) env_ok Tryd.func16 rfl rfl rfl (by simp only [List.length_cons, List.length_nil]; exact of_decide_eq_true rfl) ?_
  ((try first | refine walk_aw env_ok (none) ?_ | refine walk_aw envR_ok (none) ?_); try simp -implicitDefEqProofs (maxSteps := 1000000) only [go_sem, ↓reduceIte, reduceCtorEq, Nat.reduceLT, Nat.reduceEqDiff, Nat.reduceBEq, Nat.reduceAdd, Nat.reduceMul, Nat.reduceSub, Nat.reduceLeDiff, Int.reduceNeg, Int.reduceLT, Int.reduceLE, Int.reduceEq, Int.reduceAdd, Int.reduceToNat])
  refine Right_spec hr ?_
  cases hR : rawRight r w with
  | false =>
    ((try first | refine walk_aw env_ok (none) ?_ | refine walk_aw envR_ok (none) ?_); try simp -implicitDefEqProofs (maxSteps := 1000000) only [go_sem, ↓reduceIte, reduceCtorEq, Nat.reduceLT, Nat.reduceEqDiff, Nat.reduceBEq, Nat.reduceAdd, Nat.reduceMul, Nat.reduceSub, Nat.reduceLeDiff, Int.reduceNeg, Int.reduceLT, Int.reduceLE, Int.reduceEq, Int.reduceAdd, Int.reduceToNat])
    exact .inr (h0 hR)
  | true =>
    have hq := h hR
    have k0 : ¬ kd r.form = 0 := by
      intro c; rw [rawRight, if_pos (.inl c)] at hR; cases hR
    ((try first | refine walk_aw env_ok (none) ?_ | refine walk_aw envR_ok (none) ?_); try simp -implicitDefEqProofs (maxSteps := 1000000) only [go_sem, ↓reduceIte, reduceCtorEq, Nat.reduceLT, Nat.reduceEqDiff, Nat.reduceBEq, Nat.reduceAdd, Nat.reduceMul, Nat.reduceSub, Nat.reduceLeDiff, Int.reduceNeg, Int.reduceLT, Int.reduceLE, Int.reduceEq, Int.reduceAdd, Int.reduceToNat])
    refine of_spec ?_
    rw [rawPut] at hq
    by_cases e1 : r.form = 13
    · rw [if_pos e1] at hq
      ((try first | refine walk_aw env_ok (none) ?_ | refine walk_aw envR_ok (none) ?_); try simp -implicitDefEqProofs (maxSteps := 1000000) only [go_sem, ↓reduceIte, reduceCtorEq, Nat.reduceLT, Nat.reduceEqDiff, Nat.reduceBEq, Nat.reduceAdd, Nat.reduceMul, Nat.reduceSub, Nat.reduceLeDiff, Int.reduceNeg, Int.reduceLT, Int.reduceLE, Int.reduceEq, Int.reduceAdd, Int.reduceToNat, e1])
      refine PutS_spec (by omega) hk hr.s ?_
      ((try first | refine walk_aw env_ok (none) ?_ | refine walk_aw envR_ok (none) ?_); try simp -implicitDefEqProofs (maxSteps := 1000000) only [go_sem, ↓reduceIte, reduceCtorEq, Nat.reduceLT, Nat.reduceEqDiff, Nat.reduceBEq, Nat.reduceAdd, Nat.reduceMul, Nat.reduceSub, Nat.reduceLeDiff, Int.reduceNeg, Int.reduceLT, Int.reduceLE, Int.reduceEq, Int.reduceAdd, Int.reduceToNat])
      exact .inr hq
    rw [if_neg e1] at hq
    by_cases e2 : kd r.form = 5
    · rw [if_pos e2] at hq
      ((try first | refine walk_aw env_ok (none) ?_ | refine walk_aw envR_ok (none) ?_); try simp -implicitDefEqProofs (maxSteps := 1000000) only [go_sem, ↓reduceIte, reduceCtorEq, Nat.reduceLT, Nat.reduceEqDiff, Nat.reduceBEq, Nat.reduceAdd, Nat.reduceMul, Nat.reduceSub, Nat.reduceLeDiff, Int.reduceNeg, Int.reduceLT, Int.reduceLE, Int.reduceEq, Int.reduceAdd, Int.reduceToNat, e1, e2])
      refine tPut_spec (by omega) hk (right_text hR e2) ?_
      ((try first | refine walk_aw env_ok (none) ?_ | refine walk_aw envR_ok (none) ?_); try simp -implicitDefEqProofs (maxSteps := 1000000) only [go_sem, ↓reduceIte, reduceCtorEq, Nat.reduceLT, Nat.reduceEqDiff, Nat.reduceBEq, Nat.reduceAdd, Nat.reduceMul, Nat.reduceSub, Nat.reduceLeDiff, Int.reduceNeg, Int.reduceLT, Int.reduceLE, Int.reduceEq, Int.reduceAdd, Int.reduceToNat])
      exact .inr hq
    rw [if_neg e2] at hq
    by_cases e3 : r.form = 30
    · rw [if_pos e3] at hq
      have f1 : b.length + r.b.length ≤ 140737488355328 := by omega
      ((try first | refine walk_aw env_ok (none) ?_ | refine walk_aw envR_ok (none) ?_); try simp -implicitDefEqProofs (maxSteps := 1000000) only [go_sem, ↓reduceIte, reduceCtorEq, Nat.reduceLT, Nat.reduceEqDiff, Nat.reduceBEq, Nat.reduceAdd, Nat.reduceMul, Nat.reduceSub, Nat.reduceLeDiff, Int.reduceNeg, Int.reduceLT, Int.reduceLE, Int.reduceEq, Int.reduceAdd, Int.reduceToNat, e1, e2, e3, show kd 30 = 9 from rfl, hk, f1])
      exact .inr hq
    rw [if_neg e3] at hq
    by_cases e4 : kd r.form = 9 ∨ kd r.form = 10
    · rw [if_pos e4] at hq
      have e5 : kd r.form = 9 ∨ (¬ kd r.form = 9 ∧ kd r.form = 10) := by omega
      have lw : IntKind.u64.wrap (r.b.length : Int) = (r.b.length : Int) := by have := hr.b; exact IntWalk.u64_in _ (by omega)
      have hnl := numB_len (n := r.b.length) (by omega) (szf r.form) w
      have f1 : (b ++ numB r.b.length (szf r.form) w).length + r.b.length ≤ 140737488355328 := by rw [List.length_append]; omega
      have f2 : k ≤ (b ++ numB r.b.length (szf r.form) w).length := by rw [List.length_append]; omega
      rcases e5 with e5 | ⟨e5, e6⟩
      · ((try first | refine walk_aw env_ok (none) ?_ | refine walk_aw envR_ok (none) ?_); try simp -implicitDefEqProofs (maxSteps := 1000000) only [go_sem, ↓reduceIte, reduceCtorEq, Nat.reduceLT, Nat.reduceEqDiff, Nat.reduceBEq, Nat.reduceAdd, Nat.reduceMul, Nat.reduceSub, Nat.reduceLeDiff, Int.reduceNeg, Int.reduceLT, Int.reduceLE, Int.reduceEq, Int.reduceAdd, Int.reduceToNat, e1, e2, e3, e5])
        refine AW.chain env_ok [0, 0, 2, 6, 14, 0, 32, 0, 255, 0, 512, 2047, 4095] [1, 2, 3, 4, 5, 6, 7, 9, 10] [(0, [1, 2, 3, 4, 5, 6, 7, 9, 10], []), (8, [9, 10], []), (11, [], []), (12, [], [])] mixed (by decide) ?_
        simp -implicitDefEqProofs (maxSteps := 1000000) (disch := omega) only [go_sem, ↓reduceIte, reduceCtorEq, Nat.reduceLT, Nat.reduceEqDiff, Nat.reduceBEq, Nat.reduceAdd, Nat.reduceMul, Nat.reduceSub, Nat.reduceLeDiff, Int.reduceNeg, Int.reduceLT, Int.reduceLE, Int.reduceEq, Int.reduceAdd, Int.reduceToNat, IntWalk.i64_in, IntWalk.u64_in, IntWalk.u8_in, if_pos, if_neg, Bool.and_eq_true, decide_eq_true_eq, lw]
        refine put_n_spec (by omega) hk (by have := hr.b; omega) ?_
        ((try first | refine walk_aw env_ok (none) ?_ | refine walk_aw envR_ok (none) ?_); try simp -implicitDefEqProofs (maxSteps := 1000000) only [go_sem, ↓reduceIte, reduceCtorEq, Nat.reduceLT, Nat.reduceEqDiff, Nat.reduceBEq, Nat.reduceAdd, Nat.reduceMul, Nat.reduceSub, Nat.reduceLeDiff, Int.reduceNeg, Int.reduceLT, Int.reduceLE, Int.reduceEq, Int.reduceAdd, Int.reduceToNat, lw, f1, f2])
        rw [← List.append_assoc] at hq
        exact .inr hq
      · ((try first | refine walk_aw env_ok (none) ?_ | refine walk_aw envR_ok (none) ?_); try simp -implicitDefEqProofs (maxSteps := 1000000) only [go_sem, ↓reduceIte, reduceCtorEq, Nat.reduceLT, Nat.reduceEqDiff, Nat.reduceBEq, Nat.reduceAdd, Nat.reduceMul, Nat.reduceSub, Nat.reduceLeDiff, Int.reduceNeg, Int.reduceLT, Int.reduceLE, Int.reduceEq, Int.reduceAdd, Int.reduceToNat, e1, e2, e3, e5, e6])
        refine AW.chain env_ok [0, 0, 2, 6, 14, 0, 32, 0, 255, 0, 512, 2047, 4095] [1, 2, 3, 4, 5, 6, 7, 9, 10] [(0, [1, 2, 3, 4, 5, 6, 7, 9, 10], []), (8, [9, 10], []), (11, [], []), (12, [], [])] mixed (by decide) ?_
        simp -implicitDefEqProofs (maxSteps := 1000000) (disch := omega) only [go_sem, ↓reduceIte, reduceCtorEq, Nat.reduceLT, Nat.reduceEqDiff, Nat.reduceBEq, Nat.reduceAdd, Nat.reduceMul, Nat.reduceSub, Nat.reduceLeDiff, Int.reduceNeg, Int.reduceLT, Int.reduceLE, Int.reduceEq, Int.reduceAdd, Int.reduceToNat, IntWalk.i64_in, IntWalk.u64_in, IntWalk.u8_in, if_pos, if_neg, Bool.and_eq_true, decide_eq_true_eq, lw]
        refine put_n_spec (by omega) hk (by have := hr.b; omega) ?_
        ((try first | refine walk_aw env_ok (none) ?_ | refine walk_aw envR_ok (none) ?_); try simp -implicitDefEqProofs (maxSteps := 1000000) only [go_sem, ↓reduceIte, reduceCtorEq, Nat.reduceLT, Nat.reduceEqDiff, Nat.reduceBEq, Nat.reduceAdd, Nat.reduceMul, Nat.reduceSub, Nat.reduceLeDiff, Int.reduceNeg, Int.reduceLT, Int.reduceLE, Int.reduceEq, Int.reduceAdd, Int.reduceToNat, lw, f1, f2])
        rw [← List.append_assoc] at hq
        exact .inr hq
    · rw [if_neg e4] at hq
      have e5 : ¬ kd r.form = 9 := fun c => e4 (.inl c)
      have e6 : ¬ kd r.form = 10 := fun c => e4 (.inr c)
      by_cases e7 : r.form = 33
      · rw [if_neg (by omega), List.append_nil] at hq
        ((try first | refine walk_aw env_ok (none) ?_ | refine walk_aw envR_ok (none) ?_); try simp -implicitDefEqProofs (maxSteps := 1000000) only [go_sem, ↓reduceIte, reduceCtorEq, Nat.reduceLT, Nat.reduceEqDiff, Nat.reduceBEq, Nat.reduceAdd, Nat.reduceMul, Nat.reduceSub, Nat.reduceLeDiff, Int.reduceNeg, Int.reduceLT, Int.reduceLE, Int.reduceEq, Int.reduceAdd, Int.reduceToNat, e1, e2, e3, show kd 33 = 3 from rfl, e7])
        exact .inr hq
      by_cases e8 : r.form = 25
      · rw [if_neg (by omega), List.append_nil] at hq
        ((try first | refine walk_aw env_ok (none) ?_ | refine walk_aw envR_ok (none) ?_); try simp -implicitDefEqProofs (maxSteps := 1000000) only [go_sem, ↓reduceIte, reduceCtorEq, Nat.reduceLT, Nat.reduceEqDiff, Nat.reduceBEq, Nat.reduceAdd, Nat.reduceMul, Nat.reduceSub, Nat.reduceLeDiff, Int.reduceNeg, Int.reduceLT, Int.reduceLE, Int.reduceEq, Int.reduceAdd, Int.reduceToNat, e1, e2, e3, show kd 25 = 4 from rfl, e8])
        exact .inr hq
      rw [if_pos ⟨e7, e8⟩] at hq
      ((try first | refine walk_aw env_ok (none) ?_ | refine walk_aw envR_ok (none) ?_); try simp -implicitDefEqProofs (maxSteps := 1000000) only [go_sem, ↓reduceIte, reduceCtorEq, Nat.reduceLT, Nat.reduceEqDiff, Nat.reduceBEq, Nat.reduceAdd, Nat.reduceMul, Nat.reduceSub, Nat.reduceLeDiff, Int.reduceNeg, Int.reduceLT, Int.reduceLE, Int.reduceEq, Int.reduceAdd, Int.reduceToNat, e1, e2, e3, e5, e6, e7, e8])
      refine put_n_spec (by omega) hk hr.u ?_
      ((try first | refine walk_aw env_ok (none) ?_ | refine walk_aw envR_ok (none) ?_); try simp -implicitDefEqProofs (maxSteps := 1000000) only [go_sem, ↓reduceIte, reduceCtorEq, Nat.reduceLT, Nat.reduceEqDiff, Nat.reduceBEq, Nat.reduceAdd, Nat.reduceMul, Nat.reduceSub, Nat.reduceLeDiff, Int.reduceNeg, Int.reduceLT, Int.reduceLE, Int.reduceEq, Int.reduceAdd, Int.reduceToNat])
      exact .inr hq
end
end Go.Ab
end

section
/- What is put is read as it was: values. -/
namespace Go.Ab
open V Go.Proofs
set_option maxHeartbeats 4000000
set_option linter.unusedSimpArgs false
set_option linter.unusedVariables false

section
variable {s : CS} {rest : List UInt8}
theorem take_app {m : List UInt8} (h0 : s.err = 0) (hb : s.b.drop s.pos = m ++ rest) : s.take m.length = (m, { s with pos := s.pos + m.length }) := by
  have hl := congrArg List.length hb
  rw [List.length_drop, List.length_append] at hl
  unfold CS.take
  rw [if_pos h0, if_pos (by omega)]
  congr 1
  rw [List.drop_take, hb, Nat.add_sub_cancel_left, List.take_left']
  rfl
theorem nz_txt {l m : List UInt8} (h : ∀ x ∈ l, x ≠ 0) : nz (l ++ 0 :: m) = l.length := by
  induction l with
  | nil => rfl
  | cons x l ih => simp only [List.cons_append, nz, if_neg (h x (by simp)), ih (fun y hy => h y (by simp [hy])), List.length_cons]
theorem text_txt {t : ByteArray} (ht : textOk t = true) (h0 : s.err = 0) (hb : s.b.drop s.pos = (txt t ++ [0]) ++ rest) : s.text = (t, { s with pos := s.pos + (txt t ++ [0]).length }) := by
  rw [textOk, Bool.and_eq_true, decide_eq_true_eq, decide_eq_true_eq] at ht
  have hl := txt_len t
  have hb2 : s.b.drop s.pos = txt t ++ 0 :: rest := by rw [hb]; simp
  have hn : nz (txt t ++ 0 :: rest) = (txt t).length := nz_txt ht.1
  unfold CS.text
  rw [if_pos h0, hb2, hn, if_neg (by simp), if_neg (by have := ht.2; omega), List.take_left']
  · congr 1
    simp
    omega
  · rfl
theorem num_numB {n : Nat} {z : Int} {w : Bool} (hn : n < 18446744073709551616) (hz : z = -1 ∨ z = -2 ∨ (1 ≤ z ∧ z ≤ 8)) (hf : fitsR n z w = true) (h0 : s.err = 0) (hb : s.b.drop s.pos = numB n z w ++ rest) :
    s.num z w = (n, { s with pos := s.pos + (numB n z w).length }) := by
  unfold CS.num
  unfold numB at hb ⊢
  by_cases c : z = -1
  · rw [if_pos c] at hb ⊢
    rw [if_pos c]
    exact uleb_putU hn h0 hb
  · rw [if_neg c] at hb ⊢
    rw [if_neg c]
    have hzz : zz z w = if z = -2 then (if w then 8 else 4) else z := rfl
    rw [← hzz]
    have hr : 1 ≤ zz z w ∧ zz z w ≤ 8 := by
      rw [hzz]; split
      · cases w <;> simp
      · omega
    rw [fitsR, decide_eq_true_eq] at hf
    generalize zz z w = y at hr hf hb ⊢
    obtain ⟨k, rfl⟩ : ∃ k : Nat, y = (k : Int) := ⟨y.toNat, by omega⟩
    rw [show (min (max (k : Int) 0) 8).toNat = k by omega] at hb ⊢
    have hlt : n < 256 ^ k := by
      rw [Int.toNat_natCast] at hf
      rcases hf with e | e | e
      · omega
      · have : k = 8 := by omega
        subst this; omega
      · exact (Nat.div_eq_zero_iff_lt (Nat.pow_pos (by omega))).1 e
    have ht := take_app h0 hb
    rw [leB_length] at ht ⊢
    rw [ht]
    simp only
    rw [le_leB k n hlt]
theorem right_parts {r : RV} {w : Bool} (h : rawRight r w = true) : kd r.form ≠ 0 ∧ (kd r.form = 3 ∨ r.s = 0) ∧ (kd r.form = 5 ∨ r.t = ⟨#[]⟩) ∧ (kd r.form = 9 ∨ kd r.form = 10 ∨ r.b = []) := by
  unfold rawRight at h
  split at h
  · cases h
  · rename_i c
    refine ⟨fun e => c (.inl e), ?_, ?_, ?_⟩
    · by_cases e : kd r.form = 3
      · exact .inl e
      · right; by_cases e2 : r.s = 0
        · exact e2
        · exact absurd (.inr (.inl ⟨e, e2⟩)) c
    · by_cases e : kd r.form = 5
      · exact .inl e
      · right; by_cases e2 : r.t = ⟨#[]⟩
        · exact e2
        · exact absurd (.inr (.inr (.inl ⟨e, e2⟩))) c
    · by_cases e : kd r.form = 9
      · exact .inl e
      · right; by_cases e3 : kd r.form = 10
        · exact .inl e3
        · right; by_cases e2 : r.b.length > 0
          · exact absurd (.inr (.inr (.inr ⟨e, e3, e2⟩))) c
          · exact List.eq_nil_of_length_eq_zero (by omega)

theorem rawVal_back {r : RV} {w : Bool} (h : rawRight r w = true) (hu : r.u < 18446744073709551616) (hs : -9223372036854775808 ≤ r.s ∧ r.s < 9223372036854775808) (h0 : s.err = 0) (hb : s.b.drop s.pos = rawPut r w ++ rest) :
    rawVal s r.form r.s w = (r, { s with pos := s.pos + (rawPut r w).length }) := by
  obtain ⟨p0, p1, p2, p3⟩ := right_parts h
  have hself : ({ s with pos := s.pos + 0 } : CS) = s := rfl
  unfold rawRight at h
  rw [if_neg (by intro c; rw [if_pos c] at h; cases h)] at h
  obtain ⟨f, u, n, b, t⟩ := r
  simp only at p0 p1 p2 p3 h hu hs ⊢
  unfold rawVal
  unfold rawPut at hb ⊢
  simp only at hb ⊢
  by_cases e1 : f = 25
  · subst e1
    rw [if_pos rfl]
    rw [if_pos rfl, decide_eq_true_eq] at h
    have k1 : kd 25 = 4 := rfl
    rw [k1] at p1 p2 p3
    have hn : n = 0 := by omega
    have ht : t = ⟨#[]⟩ := p2.resolve_left (by decide)
    have hbb : b = [] := (p3.resolve_left (by decide)).resolve_left (by decide)
    subst hn; subst ht; subst hbb; subst h
    rw [if_neg (by decide), if_neg (by decide), if_neg (by decide), if_neg (by decide), if_neg (by decide)]
    rfl
  rw [if_neg e1]
  rw [if_neg e1] at h
  by_cases e2 : f = 33
  · subst e2
    rw [if_pos rfl]
    have k1 : kd 33 = 3 := rfl
    rw [if_pos (.inl k1), Bool.and_eq_true, decide_eq_true_eq] at h
    rw [k1] at p2 p3
    have ht : t = ⟨#[]⟩ := p2.resolve_left (by decide)
    have hbb : b = [] := (p3.resolve_left (by decide)).resolve_left (by decide)
    have h1 := h.1
    subst ht; subst hbb; subst h1
    rw [if_neg (by decide), if_neg (by decide), if_neg (by decide), if_neg (by decide), if_neg (by decide)]
    rfl
  rw [if_neg e2]
  by_cases e3 : f = 13
  · subst e3
    rw [if_pos rfl] at hb ⊢
    rw [if_pos rfl]
    have k1 : kd 13 = 3 := rfl
    rw [if_pos (.inl k1), Bool.and_eq_true, decide_eq_true_eq] at h
    rw [k1] at p2 p3
    have ht : t = ⟨#[]⟩ := p2.resolve_left (by decide)
    have hbb : b = [] := (p3.resolve_left (by decide)).resolve_left (by decide)
    have h1 := h.1
    rw [sleb_putS hs h0 hb]
    subst ht; subst hbb; subst h1
    rfl
  rw [if_neg e3] at hb ⊢
  rw [if_neg e3]
  by_cases e4 : kd f = 5
  · rw [if_pos e4] at hb ⊢
    rw [if_pos e4]
    rw [if_pos (.inr e4), Bool.and_eq_true, decide_eq_true_eq] at h
    have hn : n = 0 := by omega
    have hbb : b = [] := (p3.resolve_left (by omega)).resolve_left (by omega)
    rw [text_txt h.2 h0 hb]
    have h1 := h.1
    subst hn; subst hbb; subst h1
    rfl
  rw [if_neg e4] at hb ⊢
  rw [if_neg e4]
  have ht : t = ⟨#[]⟩ := p2.resolve_left e4
  by_cases e3k : kd f = 3
  · exfalso
    obtain ⟨k, hk, rfl⟩ := kd_in p0
    rw [kd_nat hk] at e3k
    have : ∀ k : Nat, k < 45 → kindL.getD k 0 = 3 → k = 13 ∨ k = 33 := by decide
    have := this k hk e3k
    omega
  have hn : n = 0 := p1.resolve_left e3k
  rw [if_neg (by omega)] at h
  by_cases e5 : f = 30
  · rw [if_pos e5] at hb h ⊢
    rw [if_pos e5]
    rw [Bool.and_eq_true, decide_eq_true_eq, decide_eq_true_eq] at h
    obtain ⟨h1, h2⟩ := h
    have htk := take_app h0 hb
    rw [h2] at htk
    rw [htk, h2]
    subst h1; subst hn; subst ht
    rfl
  rw [if_neg e5] at hb h ⊢
  rw [if_neg e5]
  have hz := szf_ok p0 e3k e4 e1 e5
  by_cases e6 : kd f = 9 ∨ kd f = 10
  · rw [if_pos e6] at hb h ⊢
    rw [if_pos e6]
    rw [Bool.and_eq_true, Bool.and_eq_true, decide_eq_true_eq, decide_eq_true_eq] at h
    obtain ⟨h1, h2, h3⟩ := h
    rw [List.append_assoc] at hb
    rw [num_numB (by omega) hz h3 h0 hb]
    simp only
    rw [if_neg (by omega)]
    have hb2 : ({ s with pos := s.pos + (numB b.length (szf f) w).length } : CS).b.drop (s.pos + (numB b.length (szf f) w).length) = b ++ rest := by
      simp only
      rw [← List.drop_drop, hb, List.drop_left']
      rfl
    rw [take_app (s := { s with pos := s.pos + (numB b.length (szf f) w).length }) h0 hb2]
    subst h1; subst hn; subst ht
    simp only [List.length_append, Nat.add_assoc]
    rfl
  · rw [if_neg e6] at hb h ⊢
    rw [if_neg e6, if_pos ⟨e2, e1⟩] at *
    have hbb : b = [] := by
      rcases p3 with c | c | c
      · exact absurd (.inl c) e6
      · exact absurd (.inr c) e6
      · exact c
    rw [num_numB hu hz h h0 hb]
    subst hn; subst ht; subst hbb
    rfl
end
end Go.Ab
end

section
/- The laws of values: what they share. -/
namespace Go.Ab
open V Go.Proofs
set_option maxHeartbeats 4000000
set_option maxRecDepth 10000
set_option linter.unusedSimpArgs false
set_option linter.unusedVariables false

/-- Are two values alike? -/
def rawSame (x y : RV) : Bool := decide (x.form = y.form) && (decide (x.u = y.u) && (decide (x.s = y.s) && (decide (x.b = y.b) && decide (x.t = y.t))))
theorem rawSame_self (x : RV) : rawSame x x = true := by simp [rawSame]
theorem str_ne {a b : List UInt8} (h : a ≠ b) : ¬ (⟨a.toArray⟩ : ByteArray) = ⟨b.toArray⟩ := by
  intro e; exact h (by simpa using e)

section
variable {H : Heap} {Q : A → Heap → Prop}
theorem rSameV_spec {x y : RV} (h : Q (.bool (rawSame x y)) H) : AC Tryd.prog 11 [.agg x.cells, .agg y.cells] H Q := by
  refine AC.enter (E := env Tryd.prog 40 (fun _ => .copy) (fun _ => false)) env_ok Tryd.func11 rfl rfl rfl (by simp only [List.length_cons, List.length_nil]; exact of_decide_eq_true rfl) ?_
  rw [rawSame] at h
  by_cases e1 : x.form = y.form
  · rw [decide_eq_true e1, Bool.true_and] at h
    by_cases e2 : x.u = y.u
    · rw [decide_eq_true e2, Bool.true_and] at h
      by_cases e3 : x.s = y.s
      · rw [decide_eq_true e3, Bool.true_and] at h
        by_cases e4 : x.b = y.b
        · rw [decide_eq_true e4, Bool.true_and] at h
          ((try first | refine walk_aw env_ok (none) ?_ | refine walk_aw envR_ok (none) ?_); try simp -implicitDefEqProofs (maxSteps := 1000000) only [go_sem, ↓reduceIte, reduceCtorEq, Nat.reduceLT, Nat.reduceEqDiff, Nat.reduceBEq, Nat.reduceAdd, Nat.reduceMul, Nat.reduceSub, Nat.reduceLeDiff, Int.reduceNeg, Int.reduceLT, Int.reduceLE, Int.reduceEq, Int.reduceAdd, Int.reduceToNat, e1, e2, e3, e4])
          exact .inr h
        · rw [decide_eq_false e4, Bool.false_and] at h
          ((try first | refine walk_aw env_ok (none) ?_ | refine walk_aw envR_ok (none) ?_); try simp -implicitDefEqProofs (maxSteps := 1000000) only [go_sem, ↓reduceIte, reduceCtorEq, Nat.reduceLT, Nat.reduceEqDiff, Nat.reduceBEq, Nat.reduceAdd, Nat.reduceMul, Nat.reduceSub, Nat.reduceLeDiff, Int.reduceNeg, Int.reduceLT, Int.reduceLE, Int.reduceEq, Int.reduceAdd, Int.reduceToNat, e1, e2, e3, str_ne e4])
          exact .inr h
      · rw [decide_eq_false e3, Bool.false_and] at h
        ((try first | refine walk_aw env_ok (none) ?_ | refine walk_aw envR_ok (none) ?_); try simp -implicitDefEqProofs (maxSteps := 1000000) only [go_sem, ↓reduceIte, reduceCtorEq, Nat.reduceLT, Nat.reduceEqDiff, Nat.reduceBEq, Nat.reduceAdd, Nat.reduceMul, Nat.reduceSub, Nat.reduceLeDiff, Int.reduceNeg, Int.reduceLT, Int.reduceLE, Int.reduceEq, Int.reduceAdd, Int.reduceToNat, e1, e2, e3])
        exact .inr h
    · rw [decide_eq_false e2, Bool.false_and] at h
      have e2' : ¬ (x.u : Int) = (y.u : Int) := by omega
      ((try first | refine walk_aw env_ok (none) ?_ | refine walk_aw envR_ok (none) ?_); try simp -implicitDefEqProofs (maxSteps := 1000000) only [go_sem, ↓reduceIte, reduceCtorEq, Nat.reduceLT, Nat.reduceEqDiff, Nat.reduceBEq, Nat.reduceAdd, Nat.reduceMul, Nat.reduceSub, Nat.reduceLeDiff, Int.reduceNeg, Int.reduceLT, Int.reduceLE, Int.reduceEq, Int.reduceAdd, Int.reduceToNat, e1, e2'])
      exact .inr h
  · rw [decide_eq_false e1, Bool.false_and] at h
    ((try first | refine walk_aw env_ok (none) ?_ | refine walk_aw envR_ok (none) ?_); try simp -implicitDefEqProofs (maxSteps := 1000000) only [go_sem, ↓reduceIte, reduceCtorEq, Nat.reduceLT, Nat.reduceEqDiff, Nat.reduceBEq, Nat.reduceAdd, Nat.reduceMul, Nat.reduceSub, Nat.reduceLeDiff, Int.reduceNeg, Int.reduceLT, Int.reduceLE, Int.reduceEq, Int.reduceAdd, Int.reduceToNat, e1])
    exact .inr h

theorem ErrNil_spec (h : Q (.int .i64 1) H) : AC Tryd.prog 12 [.ptr none] H Q := by
  refine AC.enter (E := env Tryd.prog 16 (fun _ => .copy) (fun _ => false)) env_ok Tryd.func12 rfl rfl rfl (by simp only [List.length_cons, List.length_nil]; exact of_decide_eq_true rfl) ?_
  ((try first | refine walk_aw env_ok (none) ?_ | refine walk_aw envR_ok (none) ?_); try simp -implicitDefEqProofs (maxSteps := 1000000) only [go_sem, ↓reduceIte, reduceCtorEq, Nat.reduceLT, Nat.reduceEqDiff, Nat.reduceBEq, Nat.reduceAdd, Nat.reduceMul, Nat.reduceSub, Nat.reduceLeDiff, Int.reduceNeg, Int.reduceLT, Int.reduceLE, Int.reduceEq, Int.reduceAdd, Int.reduceToNat])
  exact .inl h
theorem TakeNil_spec (h : Q (.agg [.int .i64 0, .int .u64 0, .int .i64 0, .sl [] none (), .str ⟨#[]⟩]) H) : AC Tryd.prog 9 [.ptr none, .agg [.int .i64 0, .int .i64 1, .int .i64 0], .bool true] H Q := by
  refine AC.strip (E := env Tryd.prog 0 (fun _ => .copy) (fun _ => false)) env_ok ?_
  refine AC.enter (E := env Tryd.prog 43 (fun _ => .copy) (fun _ => false)) env_ok Tryd.func9 rfl rfl rfl (by simp only [List.length_cons, List.length_nil]; exact of_decide_eq_true rfl) ?_
  ((try first | refine walk_aw env_ok (none) ?_ | refine walk_aw envR_ok (none) ?_); try simp -implicitDefEqProofs (maxSteps := 1000000) only [go_sem, ↓reduceIte, reduceCtorEq, Nat.reduceLT, Nat.reduceEqDiff, Nat.reduceBEq, Nat.reduceAdd, Nat.reduceMul, Nat.reduceSub, Nat.reduceLeDiff, Int.reduceNeg, Int.reduceLT, Int.reduceLE, Int.reduceEq, Int.reduceAdd, Int.reduceToNat])
  refine Kind_spec ?_
  ((try first | refine walk_aw env_ok (none) ?_ | refine walk_aw envR_ok (none) ?_); try simp -implicitDefEqProofs (maxSteps := 1000000) only [go_sem, ↓reduceIte, reduceCtorEq, Nat.reduceLT, Nat.reduceEqDiff, Nat.reduceBEq, Nat.reduceAdd, Nat.reduceMul, Nat.reduceSub, Nat.reduceLeDiff, Int.reduceNeg, Int.reduceLT, Int.reduceLE, Int.reduceEq, Int.reduceAdd, Int.reduceToNat, show kd 1 = 1 from rfl])
  refine ErrNil_spec ?_
  ((try first | refine walk_aw env_ok (none) ?_ | refine walk_aw envR_ok (none) ?_); try simp -implicitDefEqProofs (maxSteps := 1000000) only [go_sem, ↓reduceIte, reduceCtorEq, Nat.reduceLT, Nat.reduceEqDiff, Nat.reduceBEq, Nat.reduceAdd, Nat.reduceMul, Nat.reduceSub, Nat.reduceLeDiff, Int.reduceNeg, Int.reduceLT, Int.reduceLE, Int.reduceEq, Int.reduceAdd, Int.reduceToNat])
  exact .inr h

theorem put15 : rawPut ⟨15, 624485, 0, [], ⟨#[]⟩⟩ false = [229, 142, 38] := by
  have : putU 624485 = [229, 142, 38] := by
    rw [putU_def, if_neg (by decide), putU_def, if_neg (by decide), putU_def, if_pos (by decide)]; decide
  show numB 624485 (szf 15) false = _
  rw [numB, if_pos (by decide)]; exact this
theorem put10 : rawPut ⟨10, 0, 0, [1, 2], ⟨#[]⟩⟩ true = [2, 1, 2] := by decide
theorem take10 : rawTake ⟨[2, 1, 2], 0, 0⟩ 10 0 false = (⟨10, 0, 0, [1, 2], ⟨#[]⟩⟩, ⟨[2, 1, 2], 3, 0⟩) := by rfl

theorem works14_spec (h : Q (.bool true) H) : AC Tryd.prog 7 [] H Q := by
  refine AC.enter (E := env Tryd.prog 53 (fun _ => .copy) (fun t => t == 7 || t == 13)) env_ok Tryd.func7 rfl rfl rfl (by simp only [List.length_cons, List.length_nil]; exact of_decide_eq_true rfl) ?_
  ((try first | refine walk_aw env_ok (none) ?_ | refine walk_aw envR_ok (none) ?_); try simp -implicitDefEqProofs (maxSteps := 1000000) only [go_sem, ↓reduceIte, reduceCtorEq, Nat.reduceLT, Nat.reduceEqDiff, Nat.reduceBEq, Nat.reduceAdd, Nat.reduceMul, Nat.reduceSub, Nat.reduceLeDiff, Int.reduceNeg, Int.reduceLT, Int.reduceLE, Int.reduceEq, Int.reduceAdd, Int.reduceToNat])
  refine Put_spec (b := []) (k := 0) (r := ⟨15, 624485, 0, [], ⟨#[]⟩⟩) (by decide) (by decide) ⟨by decide, by decide, by decide, by decide⟩ (by decide) (fun hc => absurd hc (by decide)) (fun _ => ?_)
  rw [put15]
  ((try first | refine walk_aw env_ok (none) ?_ | refine walk_aw envR_ok (none) ?_); try simp -implicitDefEqProofs (maxSteps := 1000000) only [go_sem, ↓reduceIte, reduceCtorEq, Nat.reduceLT, Nat.reduceEqDiff, Nat.reduceBEq, Nat.reduceAdd, Nat.reduceMul, Nat.reduceSub, Nat.reduceLeDiff, Int.reduceNeg, Int.reduceLT, Int.reduceLE, Int.reduceEq, Int.reduceAdd, Int.reduceToNat])
  refine Put_spec (b := []) (k := 0) (r := ⟨10, 0, 0, [1, 2], ⟨#[]⟩⟩) (by decide) (by decide) ⟨by decide, by decide, by decide, by decide⟩ (by decide) (fun hc => absurd hc (by decide)) (fun _ => ?_)
  rw [put10]
  ((try first | refine walk_aw env_ok (none) ?_ | refine walk_aw envR_ok (none) ?_); try simp -implicitDefEqProofs (maxSteps := 1000000) only [go_sem, ↓reduceIte, reduceCtorEq, Nat.reduceLT, Nat.reduceEqDiff, Nat.reduceBEq, Nat.reduceAdd, Nat.reduceMul, Nat.reduceSub, Nat.reduceLeDiff, Int.reduceNeg, Int.reduceLT, Int.reduceLE, Int.reduceEq, Int.reduceAdd, Int.reduceToNat])
  refine New_spec (b := [2, 1, 2]) (by decide) ?_
  ((try first | refine walk_aw env_ok (none) ?_ | refine walk_aw envR_ok (none) ?_); try simp -implicitDefEqProofs (maxSteps := 1000000) only [go_sem, ↓reduceIte, reduceCtorEq, Nat.reduceLT, Nat.reduceEqDiff, Nat.reduceBEq, Nat.reduceAdd, Nat.reduceMul, Nat.reduceSub, Nat.reduceLeDiff, Int.reduceNeg, Int.reduceLT, Int.reduceLE, Int.reduceEq, Int.reduceAdd, Int.reduceToNat])
  refine Take_spec (s := ⟨[2, 1, 2], 0, 0⟩) ⟨by decide, by decide, by decide, by decide⟩ (by decide) (app_get0 ..) ?_
  rw [take10]
  ((try first | refine walk_aw env_ok (none) ?_ | refine walk_aw envR_ok (none) ?_); try simp -implicitDefEqProofs (maxSteps := 1000000) only [go_sem, ↓reduceIte, reduceCtorEq, Nat.reduceLT, Nat.reduceEqDiff, Nat.reduceBEq, Nat.reduceAdd, Nat.reduceMul, Nat.reduceSub, Nat.reduceLeDiff, Int.reduceNeg, Int.reduceLT, Int.reduceLE, Int.reduceEq, Int.reduceAdd, Int.reduceToNat])
  refine Kind_spec ?_
  ((try first | refine walk_aw env_ok (none) ?_ | refine walk_aw envR_ok (none) ?_); try simp -implicitDefEqProofs (maxSteps := 1000000) only [go_sem, ↓reduceIte, reduceCtorEq, Nat.reduceLT, Nat.reduceEqDiff, Nat.reduceBEq, Nat.reduceAdd, Nat.reduceMul, Nat.reduceSub, Nat.reduceLeDiff, Int.reduceNeg, Int.reduceLT, Int.reduceLE, Int.reduceEq, Int.reduceAdd, Int.reduceToNat, show kd 24 = 10 from rfl])
  refine TakeNil_spec ?_
  ((try first | refine walk_aw env_ok (none) ?_ | refine walk_aw envR_ok (none) ?_); try simp -implicitDefEqProofs (maxSteps := 1000000) only [go_sem, ↓reduceIte, reduceCtorEq, Nat.reduceLT, Nat.reduceEqDiff, Nat.reduceBEq, Nat.reduceAdd, Nat.reduceMul, Nat.reduceSub, Nat.reduceLeDiff, Int.reduceNeg, Int.reduceLT, Int.reduceLE, Int.reduceEq, Int.reduceAdd, Int.reduceToNat])
  exact .inr h
end
end Go.Ab
end
