/- Contracts of the functions that the law reaches. -/
import Derived.Test.YtbdhocfaebchfaaDoorRtPartA
import Derived.Test.YtbdhocfaebchfaaDoorRtLAbExt
set_option linter.all false
set_option linter.unusedSimpArgs false
set_option linter.unusedVariables false
set_option linter.unnecessarySimpa false
section
/- What is put is read as it was: numbers of 7-bit bytes. -/
namespace Go.Ab
open V Go.Proofs
set_option maxHeartbeats 4000000
set_option linter.unusedSimpArgs false
set_option linter.unusedVariables false

theorem val7_parts (n : Nat) : val7 (parts7 n) = n := by
  induction n using Nat.strongRecOn with
  | _ n ih =>
    unfold parts7
    split
    · simp [val7]
    · simp only [val7]
      rw [ih (n / 128) (by omega)]
      omega
theorem putU_len (n : Nat) : (putU n).length = (parts7 n).length := by
  induction n using Nat.strongRecOn with
  | _ n ih =>
    rw [putU_def]; unfold parts7
    split
    · rfl
    · simp only [List.length_cons]; rw [ih (n / 128) (by omega)]
theorem parts_top {k : Nat} : ∀ {n c : Nat}, n < c * 128 ^ k → (parts7 n).getD k 0 < c ∨ c = 0 := by
  induction k with
  | zero =>
    intro n c h
    left
    unfold parts7
    split
    · simpa using h
    · simp at h ⊢; omega
  | succ k ih =>
    intro n c h
    by_cases hc : c = 0
    · exact .inr hc
    unfold parts7
    split
    · left; simp; omega
    · rw [List.getD_cons_succ]
      refine ih ?_
      rw [Nat.div_lt_iff_lt_mul (by omega), Nat.mul_assoc, ← Nat.pow_succ]
      exact h

section
variable {s : CS} {rest : List UInt8}

/-- A byte is read. -/
theorem take_one {x : UInt8} (h0 : s.err = 0) (hb : s.b.drop s.pos = x :: rest) : s.take 1 = ([x], { s with pos := s.pos + 1 }) := by
  have hl : s.pos < s.b.length := by
    rcases Nat.lt_or_ge s.pos s.b.length with h | h
    · exact h
    · rw [List.drop_of_length_le h] at hb; cases hb
  unfold CS.take
  rw [if_pos h0, if_pos (by omega)]
  congr 1
  rw [List.drop_take, hb]
  simp
theorem drop_next {x : UInt8} (hb : s.b.drop s.pos = x :: rest) : s.b.drop (s.pos + 1) = rest := by
  rw [← List.drop_drop, hb]; rfl

theorem seven_putU : ∀ (n : Nat) (k : Nat) {s : CS}, n < 128 ^ (k + 1) → s.err = 0 → s.b.drop s.pos = putU n ++ rest →
    seven (k + 1) s = (some (parts7 n), { s with pos := s.pos + (putU n).length }) := by
  intro n
  induction n using Nat.strongRecOn with
  | _ n ih =>
    intro k s hn h0 hb
    rw [putU_def n] at hb ⊢
    unfold parts7
    by_cases h : n < 128
    · rw [if_pos h] at hb ⊢
      rw [dif_pos h]
      have ht := take_one h0 hb
      unfold seven
      simp only [ht]
      have hle : le [UInt8.ofNat n] = n := by
        simp [le, UInt8.toNat_ofNat']
        omega
      rw [if_pos h0, hle, if_pos h]
      rfl
    · rw [if_neg h] at hb ⊢
      rw [dif_neg h]
      have ht := take_one h0 hb
      have hle : le [UInt8.ofNat (n % 128 + 128)] = n % 128 + 128 := by
        simp [le, UInt8.toNat_ofNat']
        omega
      have hk : ∃ j, k = j + 1 := by
        cases k with
        | zero => simp at hn; omega
        | succ j => exact ⟨j, rfl⟩
      obtain ⟨j, rfl⟩ := hk
      have hdiv : n / 128 < 128 ^ (j + 1) := by rw [Nat.div_lt_iff_lt_mul (by omega)]; rw [Nat.pow_succ] at hn; exact hn
      have := ih (n / 128) (by omega) j (s := { s with pos := s.pos + 1 }) hdiv h0 (drop_next (rest := putU (n / 128) ++ rest) hb)
      unfold seven
      simp only [ht]
      rw [if_pos h0, hle, if_neg (by omega), this]
      have h1 : (n % 128 + 128) % 128 = n % 128 := by omega
      have h2 : s.pos + 1 + (putU (n / 128)).length = s.pos + ((putU (n / 128)).length + 1) := by omega
      simp only [List.length_cons, h1, h2]

theorem uleb_putU {n : Nat} (hn : n < 18446744073709551616) (h0 : s.err = 0) (hb : s.b.drop s.pos = putU n ++ rest) : s.uleb = (n, { s with pos := s.pos + (putU n).length }) := by
  have h := seven_putU (rest := rest) n 9 (s := s) (by omega) h0 hb
  unfold CS.uleb
  rw [h]
  simp only
  rw [if_neg, val7_parts]
  rintro ⟨_, h2⟩
  have := parts_top (k := 9) (n := n) (c := 2) (by omega)
  omega
end


section
variable {s : CS} {rest : List UInt8}
theorem seven_enc : ∀ (P : List Nat) (k : Nat) {s : CS}, P ≠ [] → P.length ≤ k + 1 → (∀ x ∈ P, x < 128) → s.err = 0 → s.b.drop s.pos = (enc P.dropLast ++ [UInt8.ofNat (P.getLastD 0)]) ++ rest →
    seven (k + 1) s = (some P, { s with pos := s.pos + P.length }) := by
  intro P
  induction P with
  | nil => intro k s h; exact absurd rfl h
  | cons x P ih =>
    intro k s _ hl hx h0 hb
    have hx0 := hx x (by simp)
    cases P with
    | nil =>
      have ht := take_one (rest := rest) (x := UInt8.ofNat x) h0 (by simpa [enc] using hb)
      unfold seven
      simp only [ht]
      have hle : le [UInt8.ofNat x] = x := by simp [le, UInt8.toNat_ofNat']; omega
      rw [if_pos h0, hle, if_pos hx0]
      rfl
    | cons y P =>
      have hb2 : s.b.drop s.pos = UInt8.ofNat (x + 128) :: ((enc (y :: P).dropLast ++ [UInt8.ofNat ((y :: P).getLastD 0)]) ++ rest) := by
        rw [hb, List.dropLast_cons_of_ne_nil (by simp)]; simp [enc]
      have ht := take_one h0 hb2
      have hle : le [UInt8.ofNat (x + 128)] = x + 128 := by simp [le, UInt8.toNat_ofNat']; omega
      have hk : ∃ j, k = j + 1 := by
        cases k with
        | zero => simp at hl
        | succ j => exact ⟨j, rfl⟩
      obtain ⟨j, rfl⟩ := hk
      have := ih j (s := { s with pos := s.pos + 1 }) (by simp) (by simpa using hl) (fun z hz => hx z (by simp [hz])) h0 (drop_next hb2)
      unfold seven
      simp only [ht]
      rw [if_pos h0, hle, if_neg (by omega), this]
      have h1 : (x + 128) % 128 = x := by omega
      have h2 : s.pos + 1 + (y :: P).length = s.pos + ((y :: P).length + 1) := by omega
      simp only [h1]
      rw [h2]; rfl

theorem sval_step {x : Nat} {l : List Nat} (h : l ≠ []) : sval (x :: l) = x + 128 * sval l := by
  have hl := List.length_pos_iff.2 h
  unfold sval
  have e : (x :: l).getD ((x :: l).length - 1) 0 = l.getD (l.length - 1) 0 := by
    rw [show (x :: l).length - 1 = (l.length - 1) + 1 by simp; omega, List.getD_cons_succ]
  rw [e]
  split
  · simp only [val7]; omega
  · simp only [val7, List.length_cons, Int.pow_succ]; omega
theorem sval_parts : ∀ (m : Nat) (n : Int), n.natAbs = m → sval (partsS n) = n := by
  intro m
  induction m using Nat.strongRecOn with
  | _ m ih =>
    intro n hm
    unfold partsS
    split
    · rename_i c
      obtain ⟨x, hx⟩ : ∃ x : Nat, n % 128 = (x : Int) := ⟨(n % 128).toNat, by omega⟩
      rw [hx, Int.toNat_natCast]
      simp only [sval, List.length_cons, List.length_nil, List.getD_cons_zero, val7]
      split
      · rename_i c2
        have c3 : x < 64 := by simpa using c2
        omega
      · rename_i c2
        have c3 : ¬ x < 64 := by simpa using c2
        rw [show ((128 : Int) ^ (0 + 1)) = 128 from rfl]
        omega
    · rw [sval_step (partsS_ne _), ih _ (by omega) (n / 128) rfl]; omega
theorem parts_last : ∀ (k : Nat) (n : Int), (partsS n).length = k + 1 → (partsS n).getD k 0 = (n / 128 ^ k % 128).toNat := by
  intro k
  induction k with
  | zero =>
    intro n h
    unfold partsS at h ⊢
    split
    · simp
    · rename_i c
      rw [dif_neg c] at h
      have := List.length_pos_iff.2 (partsS_ne (n / 128))
      simp only [List.length_cons] at h; omega
  | succ k ih =>
    intro n h
    unfold partsS at h ⊢
    split
    · rename_i c; rw [dif_pos c] at h; simp at h
    · rename_i c
      rw [dif_neg c] at h
      rw [List.getD_cons_succ, ih (n / 128) (by simpa using h), Int.pow_succ, Int.mul_comm, Int.ediv_ediv_of_nonneg (by decide)]
theorem sleb_putS {n : Int} (hn : -9223372036854775808 ≤ n ∧ n < 9223372036854775808) (h0 : s.err = 0) (hb : s.b.drop s.pos = putS n ++ rest) : s.sleb = (n, { s with pos := s.pos + (putS n).length }) := by
  have hlen : (putS n).length = (partsS n).length := by
    have := List.length_pos_iff.2 (partsS_ne n)
    rw [putS]; simp [enc]; omega
  have h := seven_enc (rest := rest) (partsS n) 9 (s := s) (partsS_ne n) (partsS_len n hn) (partsS_lt n hn) h0 hb
  unfold CS.sleb
  rw [h, hlen]
  simp only
  rw [if_neg, sval_parts _ n rfl]
  rintro ⟨h1, h2, h3⟩
  have h4 := parts_last 9 n h1
  have h5 : (128 : Int) ^ 9 = 9223372036854775808 := by decide
  rw [h5] at h4
  omega
end
end Go.Ab
end

section
/- Numbers as bytes, the lowest first. -/
namespace Go.Ab
open V Go.Proofs
set_option linter.unusedVariables false

/-- k bytes of a number, the lowest first. -/
def leB : Nat → Nat → List UInt8
  | 0, _ => []
  | k + 1, a => UInt8.ofNat (a % 256) :: leB k (a / 256)
theorem leB_length : ∀ (k a : Nat), (leB k a).length = k := by
  intro k
  induction k with
  | zero => intro a; rfl
  | succ k ih => intro a; simp [leB, ih]
theorem le_leB : ∀ (k a : Nat), a < 256 ^ k → le (leB k a) = a := by
  intro k
  induction k with
  | zero => intro a h; simp at h; simp [leB, le, h]
  | succ k ih =>
    intro a h
    have hd : a / 256 < 256 ^ k := by rw [Nat.div_lt_iff_lt_mul (by omega)]; rw [Nat.pow_succ] at h; exact h
    have hb : (UInt8.ofNat (a % 256)).toNat = a % 256 := by simp
    simp only [leB, le, ih _ hd, hb]
    omega
theorem u8_nat (n : Nat) : IntKind.u8.wrap (n : Int) = ((n % 256 : Nat) : Int) := by rw [IntKind.wrap_u8]; omega
theorem bA_snoc (l : List UInt8) (n : Nat) (h : n < 256) : bA l ++ ([V.int .u8 (n : Int)] : List A) = bA (l ++ [UInt8.ofNat n]) := by
  simp only [bA, List.map_append, List.map_cons, List.map_nil, byteA]
  rw [show (UInt8.ofNat n).toNat = n by simp; omega]
theorem leB_snoc : ∀ (k a : Nat), leB (k + 1) a = leB k a ++ [UInt8.ofNat (a / 256 ^ k % 256)] := by
  intro k
  induction k with
  | zero => intro a; simp [leB]
  | succ k ih =>
    intro a
    rw [leB, ih (a / 256), leB, List.cons_append, Nat.div_div_eq_div_mul, ← Nat.pow_succ']
theorem shr_byte (a i : Nat) (hi : i < 8) : (a : Int).fdiv (2 ^ min (8 * (i : Int)).toNat 64) = ((a / 256 ^ i : Nat) : Int) := by
  rw [show min (8 * (i : Int)).toNat 64 = 8 * i by omega, Int.fdiv_eq_ediv_of_nonneg _ (by exact Int.le_of_lt (Int.pow_pos (by decide))), show (256 : Nat) = 2 ^ 8 from rfl, ← Nat.pow_mul]
  simp
end Go.Ab
end

section
/- Objects at the heap's end, any number. -/
namespace Go.Ab
open V Go.Proofs
set_option linter.unusedVariables false

section
variable (H : Heap) (Z M : List (Ob Unit)) (x y : Ob Unit) (i p q : Nat)
theorem app_get0 : (H ++ Z)[H.length]? = Z[0]? := by rw [List.getElem?_append_right (Nat.le_refl _), Nat.sub_self]
theorem app_get : (H ++ Z)[H.length + i]? = Z[i]? := by rw [List.getElem?_append_right (by omega), Nat.add_sub_cancel_left]
theorem app_set0 : (H ++ Z).set H.length x = H ++ Z.set 0 x := by rw [List.set_append_right _ _ (Nat.le_refl _), Nat.sub_self]
theorem app_set : (H ++ Z).set (H.length + i) x = H ++ Z.set i x := by rw [List.set_append_right _ _ (by omega), Nat.add_sub_cancel_left]
theorem app_take : (H ++ Z).take H.length = H := by simp
theorem app_app : H ++ Z ++ M = H ++ (Z ++ M) := List.append_assoc ..
theorem app_len : (H ++ Z).length = H.length + Z.length := List.length_append
theorem sap_get0 : (H.set p y ++ Z)[H.length]? = Z[0]? := by have := app_get0 (H.set p y) Z; rwa [List.length_set] at this
theorem sap_get : (H.set p y ++ Z)[H.length + i]? = Z[i]? := by have := app_get (H.set p y) Z i; rwa [List.length_set] at this
theorem sap_set0 : (H.set p y ++ Z).set H.length x = H.set p y ++ Z.set 0 x := by have := app_set0 (H.set p y) Z x; rwa [List.length_set] at this
theorem sap_set : (H.set p y ++ Z).set (H.length + i) x = H.set p y ++ Z.set i x := by have := app_set (H.set p y) Z x i; rwa [List.length_set] at this
theorem sap_take : (H.set p y ++ Z).take H.length = H.set p y := by have := app_take (H.set p y) Z; rwa [List.length_set] at this
theorem add_lt1 : (H.length < H.length + 1) = True := by simp
end
theorem in_get {H : Heap} {p : Nat} {x : Ob Unit} (Z : List (Ob Unit)) (h : H[p]? = some x) : (H ++ Z)[p]? = some x := by
  rw [List.getElem?_append_left (List.getElem?_eq_some_iff.1 h).1]; exact h
theorem in_set {H : Heap} {p : Nat} {x : Ob Unit} (Z : List (Ob Unit)) (y : Ob Unit) (h : H[p]? = some x) : (H ++ Z).set p y = H.set p y ++ Z :=
  List.set_append_left _ _ (List.getElem?_eq_some_iff.1 h).1
theorem sin_get {H : Heap} {p : Nat} {x : Ob Unit} (Z : List (Ob Unit)) (y : Ob Unit) (h : H[p]? = some x) : (H.set p y ++ Z)[p]? = some y := by
  have hl := (List.getElem?_eq_some_iff.1 h).1
  rw [List.getElem?_append_left (by rw [List.length_set]; exact hl)]; simp [hl]
theorem sin_set {H : Heap} {p : Nat} {x : Ob Unit} (Z : List (Ob Unit)) (y z : Ob Unit) (h : H[p]? = some x) : (H.set p y ++ Z).set p z = H.set p z ++ Z := by
  have hl := (List.getElem?_eq_some_iff.1 h).1
  rw [List.set_append_left _ _ (by rw [List.length_set]; exact hl), List.set_set]
attribute [go_sem] app_get0 app_get app_set0 app_set app_take app_app app_len sap_get0 sap_get sap_set0 sap_set sap_take
theorem uni_i2 (k : IntKind) (n : Int) : Uni 1 ([.int k n] : List A) = true := rfl
attribute [go_sem] uni_i2 List.length_set
end Go.Ab
end

section
/- Packages raw and length: forms. -/
namespace Go.Ab
open V Go.Proofs
set_option maxHeartbeats 4000000
set_option maxRecDepth 10000
set_option linter.unusedSimpArgs false
set_option linter.unusedVariables false

/-- Forms' kinds, and their sizes (-1: 7-bit bytes; -2: an offset; -3: something else). -/
def kindL : List Int := [0, 1, 0, 9, 9, 2, 2, 2, 5, 9, 9, 2, 4, 3, 6, 2, 12, 11, 11, 11, 11, 11, 0, 14, 10, 4, 8, 15, 0, 0, 9, 7, 13, 3, 16, 17, 0, 8, 8, 8, 8, 15, 15, 15, 15]
def sizeL : List Int := [0, 8, 0, 2, 4, 2, 4, 8, -3, -1, 1, 1, 1, -3, -2, -1, -2, 1, 2, 4, 8, -1, 0, -2, -1, 0, -1, -1, 0, 0, 0, -2, 8, -3, -1, -1, 0, 1, 2, 3, 4, 1, 2, 3, 4]
def kd (n : Int) : Int := if 0 ≤ n ∧ n < 45 then kindL.getD n.toNat 0 else 0
def szf (n : Int) : Int := if 0 ≤ n ∧ n < 45 then sizeL.getD n.toNat 0 else 0
theorem kd_nat {k : Nat} (h : k < 45) : kd (k : Int) = kindL.getD k 0 := by rw [kd, if_pos (by omega), Int.toNat_natCast]
theorem szf_nat {k : Nat} (h : k < 45) : szf (k : Int) = sizeL.getD k 0 := by rw [szf, if_pos (by omega), Int.toNat_natCast]

section
variable {H : Heap} {Q : A → Heap → Prop}
theorem form_row : ∀ k : Nat, k < 45 → List.take 2 (List.drop (k * 2) tabL0) = [.int .i64 (kindL.getD k 0), .int .i64 (sizeL.getD k 0)]
  | 0, _ => rfl
  | 1, _ => rfl
  | 2, _ => rfl
  | 3, _ => rfl
  | 4, _ => rfl
  | 5, _ => rfl
  | 6, _ => rfl
  | 7, _ => rfl
  | 8, _ => rfl
  | 9, _ => rfl
  | 10, _ => rfl
  | 11, _ => rfl
  | 12, _ => rfl
  | 13, _ => rfl
  | 14, _ => rfl
  | 15, _ => rfl
  | 16, _ => rfl
  | 17, _ => rfl
  | 18, _ => rfl
  | 19, _ => rfl
  | 20, _ => rfl
  | 21, _ => rfl
  | 22, _ => rfl
  | 23, _ => rfl
  | 24, _ => rfl
  | 25, _ => rfl
  | 26, _ => rfl
  | 27, _ => rfl
  | 28, _ => rfl
  | 29, _ => rfl
  | 30, _ => rfl
  | 31, _ => rfl
  | 32, _ => rfl
  | 33, _ => rfl
  | 34, _ => rfl
  | 35, _ => rfl
  | 36, _ => rfl
  | 37, _ => rfl
  | 38, _ => rfl
  | 39, _ => rfl
  | 40, _ => rfl
  | 41, _ => rfl
  | 42, _ => rfl
  | 43, _ => rfl
  | 44, _ => rfl
  | k + 45, h => absurd h (by omega)
theorem tab_flag (k : Nat) : flaglessL (List.drop k tabL0) = true := by
  rw [flaglessL_all, List.all_eq_true]
  intro x hx
  have : ∀ y ∈ tabL0, y.flagless = true := by rw [← List.all_eq_true]; rfl
  exact this x (List.mem_of_mem_drop hx)
theorem of_spec {n : Int} (h : Q (.agg [.int .i64 (kd n), .int .i64 (szf n)]) H) : AC Tryd.prog 31 [.int .i64 n] H Q := by
  refine AC.enter (E := env Tryd.prog 13 (fun _ => .copy) (fun _ => false)) env_ok Tryd.func31 rfl rfl rfl (by simp only [List.length_cons, List.length_nil]; exact of_decide_eq_true rfl) ?_
  by_cases c : 0 ≤ n ∧ n < 45
  · obtain ⟨c1, c2⟩ := c
    obtain ⟨k, rfl⟩ : ∃ k : Nat, n = (k : Int) := ⟨n.toNat, by omega⟩
    have hk : k < 45 := by omega
    have e1 : ¬ (k : Int) < 0 := by omega
    have e2 : ¬ (k : Int) ≥ 45 := by omega
    have e3 : k * 2 ≤ 90 := by omega
    have e4 : 2 ≤ (List.drop (k * 2) tabL0).length := by rw [List.length_drop, tabn0]; omega
    ((try first | refine walk_aw env_ok (none) ?_ | refine walk_aw envR_ok (none) ?_); try simp -implicitDefEqProofs (maxSteps := 1000000) only [go_sem, ↓reduceIte, reduceCtorEq, Nat.reduceLT, Nat.reduceEqDiff, Nat.reduceBEq, Nat.reduceAdd, Nat.reduceMul, Nat.reduceSub, Nat.reduceLeDiff, Int.reduceNeg, Int.reduceLT, Int.reduceLE, Int.reduceEq, Int.reduceAdd, Int.reduceToNat, e1, e2, c1, c2, e3, e4, tab_flag, form_row k hk])
    rw [kd_nat hk, szf_nat hk] at h
    exact .inr h
  · rw [kd, szf, if_neg c, if_neg c] at h
    rcases Int.lt_or_le n 0 with e1 | e1
    · ((try first | refine walk_aw env_ok (none) ?_ | refine walk_aw envR_ok (none) ?_); try simp -implicitDefEqProofs (maxSteps := 1000000) only [go_sem, ↓reduceIte, reduceCtorEq, Nat.reduceLT, Nat.reduceEqDiff, Nat.reduceBEq, Nat.reduceAdd, Nat.reduceMul, Nat.reduceSub, Nat.reduceLeDiff, Int.reduceNeg, Int.reduceLT, Int.reduceLE, Int.reduceEq, Int.reduceAdd, Int.reduceToNat, e1])
      exact .inr h
    · have e2 : n ≥ 45 := by omega
      have e3 : ¬ n < 0 := by omega
      ((try first | refine walk_aw env_ok (none) ?_ | refine walk_aw envR_ok (none) ?_); try simp -implicitDefEqProofs (maxSteps := 1000000) only [go_sem, ↓reduceIte, reduceCtorEq, Nat.reduceLT, Nat.reduceEqDiff, Nat.reduceBEq, Nat.reduceAdd, Nat.reduceMul, Nat.reduceSub, Nat.reduceLeDiff, Int.reduceNeg, Int.reduceLT, Int.reduceLE, Int.reduceEq, Int.reduceAdd, Int.reduceToNat, e3, e2])
      exact .inr h
theorem Kind_spec {n : Int} (h : Q (.int .i64 (kd n)) H) : AC Tryd.prog 14 [.int .i64 n] H Q := by
  refine AC.enter (E := env Tryd.prog 6 (fun _ => .copy) (fun _ => false)) env_ok Tryd.func14 rfl rfl rfl (by simp only [List.length_cons, List.length_nil]; exact of_decide_eq_true rfl) ?_
  ((try first | refine walk_aw env_ok (none) ?_ | refine walk_aw envR_ok (none) ?_); try simp -implicitDefEqProofs (maxSteps := 1000000) only [go_sem, ↓reduceIte, reduceCtorEq, Nat.reduceLT, Nat.reduceEqDiff, Nat.reduceBEq, Nat.reduceAdd, Nat.reduceMul, Nat.reduceSub, Nat.reduceLeDiff, Int.reduceNeg, Int.reduceLT, Int.reduceLE, Int.reduceEq, Int.reduceAdd, Int.reduceToNat])
  refine of_spec ?_
  ((try first | refine walk_aw env_ok (none) ?_ | refine walk_aw envR_ok (none) ?_); try simp -implicitDefEqProofs (maxSteps := 1000000) only [go_sem, ↓reduceIte, reduceCtorEq, Nat.reduceLT, Nat.reduceEqDiff, Nat.reduceBEq, Nat.reduceAdd, Nat.reduceMul, Nat.reduceSub, Nat.reduceLeDiff, Int.reduceNeg, Int.reduceLT, Int.reduceLE, Int.reduceEq, Int.reduceAdd, Int.reduceToNat])
  exact .inl h

theorem kd_out : ∀ k : Nat, k < 45 → kindL.getD k 0 = 0 ∨ k ∈ [1, 5, 6, 7, 11, 15, 13, 33, 12, 25, 8, 14, 31, 26, 37, 38, 39, 40, 3, 4, 9, 10, 30, 24, 17, 18, 19, 20, 21, 16, 32, 23, 27, 41, 42, 43, 44, 34, 35] := by decide

theorem rKind_spec {n : Int} (h : Q (.int .i64 (kd n)) H) : AC Tryd.prog 15 [.int .i64 n] H Q := by
  refine AC.enter (E := env Tryd.prog 60 (fun _ => .copy) (fun _ => false)) env_ok Tryd.func15 rfl rfl rfl (by simp only [List.length_cons, List.length_nil]; exact of_decide_eq_true rfl) ?_
  ((try first | refine walk_aw env_ok (none) ?_ | refine walk_aw envR_ok (none) ?_); try simp -implicitDefEqProofs (maxSteps := 1000000) only [go_sem, ↓reduceIte, reduceCtorEq, Nat.reduceLT, Nat.reduceEqDiff, Nat.reduceBEq, Nat.reduceAdd, Nat.reduceMul, Nat.reduceSub, Nat.reduceLeDiff, Int.reduceNeg, Int.reduceLT, Int.reduceLE, Int.reduceEq, Int.reduceAdd, Int.reduceToNat])
  repeat
    (refine condW.br (fun e => ?_) (fun e => ?_) <;> simp only [decide_eq_true_eq, decide_eq_false_iff_not] at e
     · subst e; ((try first | refine walk_aw env_ok (none) ?_ | refine walk_aw envR_ok (none) ?_); try simp -implicitDefEqProofs (maxSteps := 1000000) only [go_sem, ↓reduceIte, reduceCtorEq, Nat.reduceLT, Nat.reduceEqDiff, Nat.reduceBEq, Nat.reduceAdd, Nat.reduceMul, Nat.reduceSub, Nat.reduceLeDiff, Int.reduceNeg, Int.reduceLT, Int.reduceLE, Int.reduceEq, Int.reduceAdd, Int.reduceToNat]); exact .inl h
     ((try first | refine walk_aw env_ok (none) ?_ | refine walk_aw envR_ok (none) ?_); try simp -implicitDefEqProofs (maxSteps := 1000000) only [go_sem, ↓reduceIte, reduceCtorEq, Nat.reduceLT, Nat.reduceEqDiff, Nat.reduceBEq, Nat.reduceAdd, Nat.reduceMul, Nat.reduceSub, Nat.reduceLeDiff, Int.reduceNeg, Int.reduceLT, Int.reduceLE, Int.reduceEq, Int.reduceAdd, Int.reduceToNat]))
  have : kd n = 0 := by
    by_cases c : 0 ≤ n ∧ n < 45
    · obtain ⟨k, rfl⟩ : ∃ k : Nat, n = (k : Int) := ⟨n.toNat, by omega⟩
      rw [kd_nat (by omega)]
      rcases kd_out k (by omega) with h0 | h0
      · exact h0
      · simp only [List.mem_cons, List.not_mem_nil, or_false] at h0; omega
    · rw [kd, if_neg c]
  rw [this] at h
  exact .inl h

theorem Off_spec {w : Bool} (h : Q (.int .i64 (if w then 8 else 4)) H) : AC Tryd.prog 58 [.bool w] H Q := by
  refine AC.enter (E := env Tryd.prog 8 (fun _ => .copy) (fun _ => false)) env_ok Tryd.func58 rfl rfl rfl (by simp only [List.length_cons, List.length_nil]; exact of_decide_eq_true rfl) ?_
  cases w <;> (((try first | refine walk_aw env_ok (none) ?_ | refine walk_aw envR_ok (none) ?_); try simp -implicitDefEqProofs (maxSteps := 1000000) only [go_sem, ↓reduceIte, reduceCtorEq, Nat.reduceLT, Nat.reduceEqDiff, Nat.reduceBEq, Nat.reduceAdd, Nat.reduceMul, Nat.reduceSub, Nat.reduceLeDiff, Int.reduceNeg, Int.reduceLT, Int.reduceLE, Int.reduceEq, Int.reduceAdd, Int.reduceToNat, tabL1]); exact .inl h)
theorem rOff_spec {w : Bool} (h : Q (.int .i64 (if w then 8 else 4)) H) : AC Tryd.prog 65 [.bool w] H Q := by
  refine AC.enter (E := env Tryd.prog 4 (fun _ => .copy) (fun _ => false)) env_ok Tryd.func65 rfl rfl rfl (by simp only [List.length_cons, List.length_nil]; exact of_decide_eq_true rfl) ?_
  cases w <;> (((try first | refine walk_aw env_ok (none) ?_ | refine walk_aw envR_ok (none) ?_); try simp -implicitDefEqProofs (maxSteps := 1000000) only [go_sem, ↓reduceIte, reduceCtorEq, Nat.reduceLT, Nat.reduceEqDiff, Nat.reduceBEq, Nat.reduceAdd, Nat.reduceMul, Nat.reduceSub, Nat.reduceLeDiff, Int.reduceNeg, Int.reduceLT, Int.reduceLE, Int.reduceEq, Int.reduceAdd, Int.reduceToNat]); exact .inl h)
end
end Go.Ab
end

section
/- Package sindriref02: numbers that are read. -/
namespace Go.Ab
open V Go.Proofs
set_option maxHeartbeats 4000000
set_option maxRecDepth 10000
set_option linter.unusedSimpArgs false
set_option linter.unusedVariables false

def uA (l : List Nat) : List A := l.map fun (x : Nat) => V.int .u64 x
theorem uA_nil : uA [] = [] := rfl
theorem uA_snoc (l : List Nat) (x : Nat) : uA l ++ [V.int .u64 (x : Int)] = uA (l ++ [x]) := by simp [uA]
theorem uA_len (l : List Nat) : (uA l).length = l.length := by simp [uA]
theorem uA_flagless (l : List Nat) : flaglessL (uA l) = true := by
  rw [flaglessL_all]; simp only [uA, List.all_eq_true, List.mem_map]; rintro _ ⟨x, _, rfl⟩; rfl
theorem uA_low (n : Nat) (l : List Nat) : lowL n (uA l) = true := by
  rw [lowL_all]; simp only [uA, List.all_eq_true, List.mem_map]; rintro _ ⟨x, _, rfl⟩; rfl
theorem uA_uni (l : List Nat) : Uni 1 (uA l) = true := by
  simp only [Uni, uA, List.all_map, List.all_eq_true]; intro x _; rfl
theorem uA_strip (l : List Nat) : stripL (uA l) = uA l := by
  induction l with
  | nil => rfl
  | cons x l ih => show V.strip (V.int .u64 (x : Int)) :: stripL (uA l) = _; rw [ih]; rfl
theorem uA_share (l : List Nat) : shareL (uA l) = uA l := by
  induction l with
  | nil => rfl
  | cons x l ih => show V.share (V.int .u64 (x : Int)) :: shareL (uA l) = _; rw [ih]; rfl
theorem uA_at (l : List Nat) (i : Nat) (d : A) (h : i < l.length) : (uA l).getD i d = V.int .u64 (l.getD i 0 : Nat) := by
  simp [uA, h]
theorem Uni_one (x : A) (h : x.cells.length = 1) : Uni 1 [x] = true := by simp [Uni, h]
theorem Uni_u64 (x : Int) : Uni 1 [V.int (δ := Unit) .u64 x] = true := rfl
attribute [go_sem] uA_nil uA_len uA_flagless uA_low uA_uni uA_strip uA_share Uni_u64

theorem tmod128 (a : Nat) : Int.tmod (a : Int) 128 = ((a % 128 : Nat) : Int) := rfl
attribute [go_sem] tmod128

section
variable {p : Nat} {s : CS} {H : Heap} {Q : A → Heap → Prop}

theorem parts_spec (hs : s.Ok) (hp : H[p]? = some (.cells s.ref))
    (h : Q (.sl (uA ((seven 10 s).1.getD [])) none ()) (H.set p (.cells (seven 10 s).2.ref))) : AC Tryd.prog 49 [.ptr (some (p, 0))] H Q := by
  have hlt := lt_of_get hp
  refine AC.enter (E := env Tryd.prog 27 (fun t => if t == 17 then .take else .copy) (fun t => t == 2)) env_ok Tryd.func49 rfl rfl rfl (by simp only [List.length_cons, List.length_nil]; exact of_decide_eq_true rfl) ?_
  ((try first | refine walk_aw env_ok (none) ?_ | refine walk_aw envR_ok (none) ?_); try simp -implicitDefEqProofs (maxSteps := 1000000) only [go_sem, ↓reduceIte, reduceCtorEq, Nat.reduceLT, Nat.reduceEqDiff, Nat.reduceBEq, Nat.reduceAdd, Nat.reduceMul, Nat.reduceSub, Nat.reduceLeDiff, Int.reduceNeg, Int.reduceLT, Int.reduceLE, Int.reduceEq, Int.reduceAdd, Int.reduceToNat])
  refine AW.loop (fun st => ∃ l s1, l.length ≤ 10 ∧ (CS.Ok s1) ∧ seven 10 s = cat7 l (seven (10 - l.length) s1) ∧ st.H = H.set p (.cells s1.ref) ∧ st.σ 4 = .int .i64 l.length ∧ st.σ 3 = .sl (uA l) (some 0) () ∧ st.σ 0 = .ptr (some (p, 0)))
    (fun st => match st.σ 4 with | .int _ i => 10 - i.toNat | _ => 0) ⟨[], s, by simp, hs, (cat7_nil _).symm, by rw [set_same hp], rfl, rfl, rfl⟩ ?_
  rintro ⟨σ, H2⟩ ⟨l, s1, hl, hs1, h7, rfl, h4, h3, h0⟩
  simp only at h4 h3 h0
  have hps : ∀ x : CS, (H.set p (.cells x.ref))[p]? = some (.cells x.ref) := fun x => get_set hp
  ((try first | refine walk_aw env_ok (none) ?_ | refine walk_aw envR_ok (none) ?_); try simp -implicitDefEqProofs (maxSteps := 1000000) only [go_sem, ↓reduceIte, reduceCtorEq, Nat.reduceLT, Nat.reduceEqDiff, Nat.reduceBEq, Nat.reduceAdd, Nat.reduceMul, Nat.reduceSub, Nat.reduceLeDiff, Int.reduceNeg, Int.reduceLT, Int.reduceLE, Int.reduceEq, Int.reduceAdd, Int.reduceToNat, h4])
  (refine condW.br ?_ ?_ <;> intro e <;> (try simp only [Bool.not_eq_true', Bool.not_eq_false', decide_eq_false_iff_not, decide_eq_true_eq, Bool.false_eq_true, Bool.and_eq_true, Bool.or_eq_true] at e))
  · ((try first | refine walk_aw env_ok (none) ?_ | refine walk_aw envR_ok (none) ?_); try simp -implicitDefEqProofs (maxSteps := 1000000) only [go_sem, ↓reduceIte, reduceCtorEq, Nat.reduceLT, Nat.reduceEqDiff, Nat.reduceBEq, Nat.reduceAdd, Nat.reduceMul, Nat.reduceSub, Nat.reduceLeDiff, Int.reduceNeg, Int.reduceLT, Int.reduceLE, Int.reduceEq, Int.reduceAdd, Int.reduceToNat, h0])
    refine rUint_spec hs1 (hps s1) ?_
    rw [set_set, show (min (max (1 : Int) 0) 8).toNat = 1 from rfl]
    have hx := le1 s1
    ((try first | refine walk_aw env_ok (none) ?_ | refine walk_aw envR_ok (none) ?_); try simp -implicitDefEqProofs (maxSteps := 1000000) only [go_sem, ↓reduceIte, reduceCtorEq, Nat.reduceLT, Nat.reduceEqDiff, Nat.reduceBEq, Nat.reduceAdd, Nat.reduceMul, Nat.reduceSub, Nat.reduceLeDiff, Int.reduceNeg, Int.reduceLT, Int.reduceLE, Int.reduceEq, Int.reduceAdd, Int.reduceToNat, h0, hps])
    (refine condW.br ?_ ?_ <;> intro e2 <;> (try simp only [Bool.not_eq_true', Bool.not_eq_false', decide_eq_false_iff_not, decide_eq_true_eq, Bool.false_eq_true, Bool.and_eq_true, Bool.or_eq_true] at e2))
    · ((try first | refine walk_aw env_ok (none) ?_ | refine walk_aw envR_ok (none) ?_); try simp -implicitDefEqProofs (maxSteps := 1000000) only [go_sem, ↓reduceIte, reduceCtorEq, Nat.reduceLT, Nat.reduceEqDiff, Nat.reduceBEq, Nat.reduceAdd, Nat.reduceMul, Nat.reduceSub, Nat.reduceLeDiff, Int.reduceNeg, Int.reduceLT, Int.reduceLE, Int.reduceEq, Int.reduceAdd, Int.reduceToNat])
      have h7' : seven (10 - l.length) s1 = (none, (s1.take 1).2) := by
        rw [show 10 - l.length = (9 - l.length) + 1 by omega]; simp only [seven, if_neg e2]
      rw [h7', cat7] at h7
      rw [h7] at h
      exact .inl h
    · have e2' : (s1.take 1).2.err = 0 := by omega
      have h7a : seven (10 - l.length) s1 = if le (s1.take 1).1 < 128 then (some [le (s1.take 1).1], (s1.take 1).2) else cat7 [le (s1.take 1).1 % 128] (seven (9 - l.length) (s1.take 1).2) := by
        rw [show 10 - l.length = (9 - l.length) + 1 by omega]
        split
        · rename_i c; simp only [seven, if_pos e2', if_pos c]
        · rename_i c; exact seven_succ _ _ e2' c
      ((try first | refine walk_aw env_ok (none) ?_ | refine walk_aw envR_ok (none) ?_); try simp -implicitDefEqProofs (maxSteps := 1000000) (disch := omega) only [go_sem, ↓reduceIte, reduceCtorEq, Nat.reduceLT, Nat.reduceEqDiff, Nat.reduceBEq, Nat.reduceAdd, Nat.reduceMul, Nat.reduceSub, Nat.reduceLeDiff, Int.reduceNeg, Int.reduceLT, Int.reduceLE, Int.reduceEq, Int.reduceAdd, Int.reduceToNat, IntWalk.i64_in, IntWalk.u64_in, IntWalk.u8_in, if_pos, if_neg, Bool.and_eq_true, decide_eq_true_eq, h3, h4, h0, uA_snoc])
      (refine condW.br ?_ ?_ <;> intro e3 <;> (try simp only [Bool.not_eq_true', Bool.not_eq_false', decide_eq_false_iff_not, decide_eq_true_eq, Bool.false_eq_true, Bool.and_eq_true, Bool.or_eq_true] at e3))
      · ((try first | refine walk_aw env_ok (none) ?_ | refine walk_aw envR_ok (none) ?_); try simp -implicitDefEqProofs (maxSteps := 1000000) only [go_sem, ↓reduceIte, reduceCtorEq, Nat.reduceLT, Nat.reduceEqDiff, Nat.reduceBEq, Nat.reduceAdd, Nat.reduceMul, Nat.reduceSub, Nat.reduceLeDiff, Int.reduceNeg, Int.reduceLT, Int.reduceLE, Int.reduceEq, Int.reduceAdd, Int.reduceToNat])
        rw [h7a, if_pos (by omega), cat7] at h7
        rw [h7] at h
        simp only [Option.getD_some] at h
        rw [show le (s1.take 1).1 % 128 = le (s1.take 1).1 by omega]
        exact .inl h
      · ((try first | refine walk_aw env_ok (none) ?_ | refine walk_aw envR_ok (none) ?_); try simp -implicitDefEqProofs (maxSteps := 1000000) (disch := omega) only [go_sem, ↓reduceIte, reduceCtorEq, Nat.reduceLT, Nat.reduceEqDiff, Nat.reduceBEq, Nat.reduceAdd, Nat.reduceMul, Nat.reduceSub, Nat.reduceLeDiff, Int.reduceNeg, Int.reduceLT, Int.reduceLE, Int.reduceEq, Int.reduceAdd, Int.reduceToNat, IntWalk.i64_in, IntWalk.u64_in, IntWalk.u8_in, if_pos, if_neg, Bool.and_eq_true, decide_eq_true_eq, h4, h0])
        rw [h7a, if_neg (by omega)] at h7
        refine ⟨⟨l ++ [le (s1.take 1).1 % 128], (s1.take 1).2, by simp; omega, hs1.take 1, ?_, rfl, ?_, rfl⟩, by omega⟩
        · rw [h7, cat7_cat]; congr 2; rw [List.length_append, List.length_cons, List.length_nil]; omega
        · rw [List.length_append]; rfl
  · ((try first | refine walk_aw env_ok (none) ?_ | refine walk_aw envR_ok (none) ?_); try simp -implicitDefEqProofs (maxSteps := 1000000) only [go_sem, ↓reduceIte, reduceCtorEq, Nat.reduceLT, Nat.reduceEqDiff, Nat.reduceBEq, Nat.reduceAdd, Nat.reduceMul, Nat.reduceSub, Nat.reduceLeDiff, Int.reduceNeg, Int.reduceLT, Int.reduceLE, Int.reduceEq, Int.reduceAdd, Int.reduceToNat, h0])
    refine rFail_spec (hps s1) ?_
    ((try first | refine walk_aw env_ok (none) ?_ | refine walk_aw envR_ok (none) ?_); try simp -implicitDefEqProofs (maxSteps := 1000000) only [go_sem, ↓reduceIte, reduceCtorEq, Nat.reduceLT, Nat.reduceEqDiff, Nat.reduceBEq, Nat.reduceAdd, Nat.reduceMul, Nat.reduceSub, Nat.reduceLeDiff, Int.reduceNeg, Int.reduceLT, Int.reduceLE, Int.reduceEq, Int.reduceAdd, Int.reduceToNat, set_set])
    rw [show 10 - l.length = 0 by omega, seven, cat7] at h7
    rw [h7] at h
    exact .inl h

theorem val7_step (l : List Nat) (i : Nat) (h : i < l.length) : val7 (l.drop i) = l.getD i 0 + 128 * val7 (l.drop (i + 1)) := by
  rw [List.drop_eq_getElem_cons h, val7]; simp [List.getD_eq_getElem?_getD, h]

theorem val7_small {l : List Nat} (j1 : 1 ≤ l.length) (j2 : l.length ≤ 10) (j3 : ∀ x ∈ l, x < 128) : val7 l < 18446744073709551616 ↔ ¬ (l.length = 10 ∧ 1 < l.getD 9 0) := by
  rcases Nat.lt_or_ge l.length 10 with c | c
  · have hv := val7_lt l j3
    have : 128 ^ l.length ≤ 128 ^ 9 := Nat.pow_le_pow_right (by omega) (by omega)
    omega
  · have hv := val7_last j1
    rw [show l.length = 10 by omega, show (10 : Nat) - 1 = 9 from rfl] at hv
    have hv9 := val7_lt (l.take 9) fun x hx => j3 x (List.mem_of_mem_take hx)
    rw [show (l.take 9).length = 9 by simp; omega] at hv9
    omega

theorem uleb_eq (s : CS) : s.uleb = if ((seven 10 s).1.getD []).length = 10 ∧ 1 < ((seven 10 s).1.getD []).getD 9 0 then (0, (seven 10 s).2.fail 11) else (val7 ((seven 10 s).1.getD []), (seven 10 s).2) := by
  unfold CS.uleb
  generalize seven 10 s = r
  obtain ⟨q, s2⟩ := r
  cases q <;> rfl

theorem rU_spec (hs : s.Ok) (hp : H[p]? = some (.cells s.ref)) (h : Q (.int .u64 s.uleb.1) (H.set p (.cells s.uleb.2.ref))) : AC Tryd.prog 25 [.ptr (some (p, 0))] H Q := by
  have hok := seven_ok 10 s hs
  refine AC.enter (E := env Tryd.prog 27 (fun _ => .copy) (fun _ => false)) env_ok Tryd.func25 rfl rfl rfl (by simp only [List.length_cons, List.length_nil]; exact of_decide_eq_true rfl) ?_
  ((try first | refine walk_aw env_ok (none) ?_ | refine walk_aw envR_ok (none) ?_); try simp -implicitDefEqProofs (maxSteps := 1000000) only [go_sem, ↓reduceIte, reduceCtorEq, Nat.reduceLT, Nat.reduceEqDiff, Nat.reduceBEq, Nat.reduceAdd, Nat.reduceMul, Nat.reduceSub, Nat.reduceLeDiff, Int.reduceNeg, Int.reduceLT, Int.reduceLE, Int.reduceEq, Int.reduceAdd, Int.reduceToNat])
  refine parts_spec hs hp ?_
  generalize hr : seven 10 s = r at hok ⊢
  obtain ⟨q, s2⟩ := r
  simp only at hok ⊢
  obtain ⟨o1, o2, o3⟩ := hok
  obtain ⟨l, hl⟩ : ∃ l, l = q.getD [] := ⟨_, rfl⟩
  rw [← hl]
  have hx : l.length ≤ 10 ∧ ∀ x ∈ l, x < 128 := by
    cases q with
    | none => subst hl; simp
    | some m => subst hl; exact ⟨(o3 _ rfl).2.1, (o3 _ rfl).2.2⟩
  obtain ⟨j2, j3⟩ := hx
  have hC : s.uleb = if l.length = 10 ∧ 1 < l.getD 9 0 then (0, s2.fail 11) else (val7 l, s2) := by rw [uleb_eq, hr, hl]
  rw [hC] at h
  have hsm : val7 l < 18446744073709551616 ↔ ¬ (l.length = 10 ∧ 1 < l.getD 9 0) := by
    rcases Nat.eq_zero_or_pos l.length with c | c
    · rw [List.length_eq_zero_iff.1 c]; simp [val7]
    · exact val7_small c j2 j3
  have hps : ∀ x : CS, (H.set p (.cells x.ref))[p]? = some (.cells x.ref) := fun x => get_set hp
  ((try first | refine walk_aw env_ok (none) ?_ | refine walk_aw envR_ok (none) ?_); try simp -implicitDefEqProofs (maxSteps := 1000000) (disch := omega) only [go_sem, ↓reduceIte, reduceCtorEq, Nat.reduceLT, Nat.reduceEqDiff, Nat.reduceBEq, Nat.reduceAdd, Nat.reduceMul, Nat.reduceSub, Nat.reduceLeDiff, Int.reduceNeg, Int.reduceLT, Int.reduceLE, Int.reduceEq, Int.reduceAdd, Int.reduceToNat, IntWalk.i64_in, IntWalk.u64_in, IntWalk.u8_in, if_pos, if_neg, Bool.and_eq_true, decide_eq_true_eq])
  refine AW.loop (fun st => ∃ i : Nat, i ≤ l.length ∧ st.σ 5 = .int .i64 ((i : Int) - 1) ∧ st.σ 4 = .int .u64 (val7 (l.drop i) : Nat) ∧ val7 (l.drop i) < 18446744073709551616 ∧ st.σ 3 = .sl (uA l) none () ∧ st.σ 0 = .ptr (some (p, 0)) ∧ st.H = H.set p (.cells s2.ref))
    (fun st => match st.σ 5 with | .int _ i => (i + 1).toNat | _ => 0) ⟨l.length, by omega, rfl, ?_, ?_, rfl, rfl, rfl⟩ ?_
  · rw [List.drop_length]; rfl
  · rw [List.drop_length]; simp [val7]
  rintro ⟨σ, H2⟩ ⟨i, hi, h5, h4, hb, h3, h0, rfl⟩
  simp only at h5 h4 h3 h0
  ((try first | refine walk_aw env_ok (none) ?_ | refine walk_aw envR_ok (none) ?_); try simp -implicitDefEqProofs (maxSteps := 1000000) only [go_sem, ↓reduceIte, reduceCtorEq, Nat.reduceLT, Nat.reduceEqDiff, Nat.reduceBEq, Nat.reduceAdd, Nat.reduceMul, Nat.reduceSub, Nat.reduceLeDiff, Int.reduceNeg, Int.reduceLT, Int.reduceLE, Int.reduceEq, Int.reduceAdd, Int.reduceToNat, h5])
  (refine condW.br ?_ ?_ <;> intro e <;> (try simp only [Bool.not_eq_true', Bool.not_eq_false', decide_eq_false_iff_not, decide_eq_true_eq, Bool.false_eq_true, Bool.and_eq_true, Bool.or_eq_true] at e))
  · obtain ⟨j, rfl⟩ : ∃ j, i = j + 1 := ⟨i - 1, by omega⟩
    rw [show ((j + 1 : Nat) : Int) - 1 = j by omega] at h5
    have hst := val7_step l j (by omega)
    have hlj : l.getD j 0 < 128 := by
      have := j3 (l[j]'(by omega)) (List.getElem_mem _)
      simpa [List.getD_eq_getElem?_getD, show j < l.length by omega] using this
    ((try first | refine walk_aw env_ok (none) ?_ | refine walk_aw envR_ok (none) ?_); try simp -implicitDefEqProofs (maxSteps := 1000000) only [go_sem, ↓reduceIte, reduceCtorEq, Nat.reduceLT, Nat.reduceEqDiff, Nat.reduceBEq, Nat.reduceAdd, Nat.reduceMul, Nat.reduceSub, Nat.reduceLeDiff, Int.reduceNeg, Int.reduceLT, Int.reduceLE, Int.reduceEq, Int.reduceAdd, Int.reduceToNat, h4])
    (refine condW.br ?_ ?_ <;> intro e2 <;> (try simp only [Bool.not_eq_true', Bool.not_eq_false', decide_eq_false_iff_not, decide_eq_true_eq, Bool.false_eq_true, Bool.and_eq_true, Bool.or_eq_true] at e2))
    · ((try first | refine walk_aw env_ok (none) ?_ | refine walk_aw envR_ok (none) ?_); try simp -implicitDefEqProofs (maxSteps := 1000000) only [go_sem, ↓reduceIte, reduceCtorEq, Nat.reduceLT, Nat.reduceEqDiff, Nat.reduceBEq, Nat.reduceAdd, Nat.reduceMul, Nat.reduceSub, Nat.reduceLeDiff, Int.reduceNeg, Int.reduceLT, Int.reduceLE, Int.reduceEq, Int.reduceAdd, Int.reduceToNat, h0])
      refine rFail_spec (hps s2) ?_
      ((try first | refine walk_aw env_ok (none) ?_ | refine walk_aw envR_ok (none) ?_); try simp -implicitDefEqProofs (maxSteps := 1000000) only [go_sem, ↓reduceIte, reduceCtorEq, Nat.reduceLT, Nat.reduceEqDiff, Nat.reduceBEq, Nat.reduceAdd, Nat.reduceMul, Nat.reduceSub, Nat.reduceLeDiff, Int.reduceNeg, Int.reduceLT, Int.reduceLE, Int.reduceEq, Int.reduceAdd, Int.reduceToNat, set_set])
      refine .inl ?_
      have hbig : ¬ val7 l < 18446744073709551616 := by
        have h1 := val7_append (l.take (j + 1)) (l.drop (j + 1))
        rw [List.take_append_drop, List.length_take, Nat.min_eq_left hi, Nat.pow_succ] at h1
        have h2 : 1 ≤ 128 ^ j := Nat.one_le_pow _ _ (by omega)
        have h3 : 1 * 128 * val7 (l.drop (j + 1)) ≤ 128 ^ j * 128 * val7 (l.drop (j + 1)) := Nat.mul_le_mul_right _ (Nat.mul_le_mul_right _ h2)
        omega
      rw [if_pos (by rw [hsm] at hbig; exact Decidable.not_not.1 hbig)] at h
      exact h
    · ((try first | refine walk_aw env_ok (none) ?_ | refine walk_aw envR_ok (none) ?_); try simp -implicitDefEqProofs (maxSteps := 1000000) (disch := omega) only [go_sem, ↓reduceIte, reduceCtorEq, Nat.reduceLT, Nat.reduceEqDiff, Nat.reduceBEq, Nat.reduceAdd, Nat.reduceMul, Nat.reduceSub, Nat.reduceLeDiff, Int.reduceNeg, Int.reduceLT, Int.reduceLE, Int.reduceEq, Int.reduceAdd, Int.reduceToNat, IntWalk.i64_in, IntWalk.u64_in, IntWalk.u8_in, if_pos, if_neg, Bool.and_eq_true, decide_eq_true_eq, h0, h4, h5, h3, uA_at l j _ (by omega)])
      refine ⟨⟨j, by omega, rfl, ?_, by omega⟩, by omega⟩
      exact congrArg (V.int .u64) (by omega)
  · ((try first | refine walk_aw env_ok (none) ?_ | refine walk_aw envR_ok (none) ?_); try simp -implicitDefEqProofs (maxSteps := 1000000) only [go_sem, ↓reduceIte, reduceCtorEq, Nat.reduceLT, Nat.reduceEqDiff, Nat.reduceBEq, Nat.reduceAdd, Nat.reduceMul, Nat.reduceSub, Nat.reduceLeDiff, Int.reduceNeg, Int.reduceLT, Int.reduceLE, Int.reduceEq, Int.reduceAdd, Int.reduceToNat, h4])
    refine .inl ?_
    rw [show i = 0 by omega, List.drop_zero] at hb ⊢
    rw [if_neg (hsm.1 hb)] at h
    exact h

theorem sleb_eq (s : CS) : s.sleb = if ((seven 10 s).1.getD []).length = 10 ∧ ((seven 10 s).1.getD []).getD 9 0 ≠ 0 ∧ ((seven 10 s).1.getD []).getD 9 0 ≠ 127 then (0, (seven 10 s).2.fail 11) else (if ((seven 10 s).1.getD []).length = 0 then 0 else sval ((seven 10 s).1.getD []), (seven 10 s).2) := by
  have h : ∀ l, (seven 10 s).1 = some l → 1 ≤ l.length := by
    -- a number that is told has a part
    have : ∀ k s l, (seven k s).1 = some l → 1 ≤ l.length := by
      intro k
      induction k with
      | zero => simp [seven]
      | succ k ih =>
        intro s l
        simp only [seven]
        split
        · split
          · rintro ⟨⟩; simp
          · generalize seven k _ = q
            obtain ⟨r, s2⟩ := q
            cases r
            · simp
            · rintro ⟨⟩; simp
        · simp
    exact this 10 s
  unfold CS.sleb
  generalize seven 10 s = r at h
  obtain ⟨q, s2⟩ := r
  cases q with
  | none => simp
  | some l =>
    have := h l rfl
    simp only [Option.getD_some]
    rw [if_neg (show ¬ l.length = 0 by omega)]

/-- The digits from i on, the last one with its sign. -/
def sdrop (l : List Nat) (i : Nat) : Int := sval (l.drop i)
theorem sval_cons (x : Nat) {l : List Nat} (h : 1 ≤ l.length) : sval (x :: l) = x + 128 * sval l := by
  obtain ⟨y, m, rfl⟩ : ∃ y m, l = y :: m := by cases l; simp at h; exact ⟨_, _, rfl⟩
  simp only [sval, val7, List.length_cons, Nat.add_sub_cancel, List.getD_cons_succ]
  split
  · push_cast; omega
  · rw [Int.pow_succ _ (m.length + 1)]; push_cast; omega

theorem sval_last {l : List Nat} (h : 1 ≤ l.length) : sval l = val7 (l.take (l.length - 1)) + (if l.getD (l.length - 1) 0 < 64 then (l.getD (l.length - 1) 0 : Int) else (l.getD (l.length - 1) 0 : Int) - 128) * 128 ^ (l.length - 1) := by
  have hv := val7_last h
  have e : (2 : Nat) ^ (7 * (l.length - 1)) = 128 ^ (l.length - 1) := by rw [Nat.pow_mul]
  rw [e] at hv
  have hv' : (val7 l : Int) = val7 (l.take (l.length - 1)) + (l.getD (l.length - 1) 0 : Int) * 128 ^ (l.length - 1) := by rw [hv]; simp
  unfold sval
  split
  · exact hv'
  · rw [hv', Int.sub_mul, show (128 : Int) ^ l.length = 128 * 128 ^ (l.length - 1) by
      rw [← Int.pow_succ']; congr 1; omega]
    omega
theorem sval_bound {l : List Nat} (h : 1 ≤ l.length) (h3 : ∀ x ∈ l, x < 128) : -(64 * 128 ^ (l.length - 1)) ≤ sval l ∧ sval l < 64 * 128 ^ (l.length - 1) := by
  have hv := val7_lt (l.take (l.length - 1)) fun x hx => h3 x (List.mem_of_mem_take hx)
  rw [List.length_take, Nat.min_eq_left (by omega)] at hv
  have hl : l.getD (l.length - 1) 0 < 128 := by
    have := h3 (l[l.length - 1]'(by omega)) (List.getElem_mem _)
    simpa [List.getD_eq_getElem?_getD, show l.length - 1 < l.length by omega] using this
  rw [sval_last h]
  have hv' : (val7 (l.take (l.length - 1)) : Int) < 128 ^ (l.length - 1) := by exact_mod_cast hv
  generalize hd : (if l.getD (l.length - 1) 0 < 64 then (l.getD (l.length - 1) 0 : Int) else (l.getD (l.length - 1) 0 : Int) - 128) = d
  have hd1 : -64 ≤ d ∧ d ≤ 63 := by rw [← hd]; split <;> omega
  generalize hP : (128 : Int) ^ (l.length - 1) = P at *
  have hP0 : 0 ≤ P := by rw [← hP]; exact Int.pow_nonneg (by omega)
  have a1 := Int.mul_le_mul_of_nonneg_right hd1.1 hP0
  have a2 := Int.mul_le_mul_of_nonneg_right hd1.2 hP0
  omega
theorem sdrop1 {l : List Nat} (h : l.length = 10) (h3 : ∀ x ∈ l, x < 128) : (-72057594037927936 ≤ sdrop l 1 ∧ sdrop l 1 ≤ 72057594037927935) ↔ ¬ (l.getD 9 0 ≠ 0 ∧ l.getD 9 0 ≠ 127) := by
  have hl := sval_last (l := l.drop 1) (by simp; omega)
  have e1 : (l.drop 1).length - 1 = 8 := by simp [h]
  have e2 : (l.drop 1).getD 8 0 = l.getD 9 0 := by simp [List.getD_eq_getElem?_getD]
  rw [e1, e2] at hl
  have hv := val7_lt ((l.drop 1).take 8) fun x hx => h3 x (List.mem_of_mem_drop (List.mem_of_mem_take hx))
  rw [show ((l.drop 1).take 8).length = 8 by simp; omega] at hv
  have hlast : l.getD 9 0 < 128 := by
    have := h3 (l[9]'(by omega)) (List.getElem_mem _)
    simpa [List.getD_eq_getElem?_getD, show 9 < l.length by omega] using this
  unfold sdrop
  rw [hl]
  split <;> omega

theorem sdrop_last {l : List Nat} (h : 1 ≤ l.length) : sdrop l (l.length - 1) = if l.getD (l.length - 1) 0 < 64 then (l.getD (l.length - 1) 0 : Int) else (l.getD (l.length - 1) 0 : Int) - 128 := by
  have e : l.drop (l.length - 1) = [l.getD (l.length - 1) 0] := by
    rw [List.drop_eq_getElem_cons (show l.length - 1 < l.length by omega), show l.length - 1 + 1 = l.length by omega, List.drop_length]
    simp [List.getD_eq_getElem?_getD, show l.length - 1 < l.length by omega]
  unfold sdrop
  rw [e]
  generalize l.getD (l.length - 1) 0 = x
  simp [sval, val7]

theorem rS_spec (hs : s.Ok) (hp : H[p]? = some (.cells s.ref)) (h : Q (.int .i64 s.sleb.1) (H.set p (.cells s.sleb.2.ref))) : AC Tryd.prog 27 [.ptr (some (p, 0))] H Q := by
  have hok := seven_ok 10 s hs
  rw [sleb_eq] at h
  refine AC.enter (E := env Tryd.prog 46 (fun _ => .copy) (fun _ => false)) env_ok Tryd.func27 rfl rfl rfl (by simp only [List.length_cons, List.length_nil]; exact of_decide_eq_true rfl) ?_
  ((try first | refine walk_aw env_ok (none) ?_ | refine walk_aw envR_ok (none) ?_); try simp -implicitDefEqProofs (maxSteps := 1000000) only [go_sem, ↓reduceIte, reduceCtorEq, Nat.reduceLT, Nat.reduceEqDiff, Nat.reduceBEq, Nat.reduceAdd, Nat.reduceMul, Nat.reduceSub, Nat.reduceLeDiff, Int.reduceNeg, Int.reduceLT, Int.reduceLE, Int.reduceEq, Int.reduceAdd, Int.reduceToNat])
  refine parts_spec hs hp ?_
  generalize hr : seven 10 s = r at hok h ⊢
  obtain ⟨q, s2⟩ := r
  simp only at hok h ⊢
  obtain ⟨o1, o2, o3⟩ := hok
  generalize hl : q.getD [] = l at h ⊢
  have hx : l.length ≤ 10 ∧ ∀ x ∈ l, x < 128 := by
    cases q with
    | none => subst hl; simp
    | some m => subst hl; exact ⟨(o3 _ rfl).2.1, (o3 _ rfl).2.2⟩
  obtain ⟨j2, j3⟩ := hx
  have hps : ∀ x : CS, (H.set p (.cells x.ref))[p]? = some (.cells x.ref) := fun x => get_set hp
  ((try first | refine walk_aw env_ok (none) ?_ | refine walk_aw envR_ok (none) ?_); try simp -implicitDefEqProofs (maxSteps := 1000000) (disch := omega) only [go_sem, ↓reduceIte, reduceCtorEq, Nat.reduceLT, Nat.reduceEqDiff, Nat.reduceBEq, Nat.reduceAdd, Nat.reduceMul, Nat.reduceSub, Nat.reduceLeDiff, Int.reduceNeg, Int.reduceLT, Int.reduceLE, Int.reduceEq, Int.reduceAdd, Int.reduceToNat, IntWalk.i64_in, IntWalk.u64_in, IntWalk.u8_in, if_pos, if_neg, Bool.and_eq_true, decide_eq_true_eq])
  (refine condW.br ?_ ?_ <;> intro e <;> (try simp only [Bool.not_eq_true', Bool.not_eq_false', decide_eq_false_iff_not, decide_eq_true_eq, Bool.false_eq_true, Bool.and_eq_true, Bool.or_eq_true] at e))
  · ((try first | refine walk_aw env_ok (none) ?_ | refine walk_aw envR_ok (none) ?_); try simp -implicitDefEqProofs (maxSteps := 1000000) only [go_sem, ↓reduceIte, reduceCtorEq, Nat.reduceLT, Nat.reduceEqDiff, Nat.reduceBEq, Nat.reduceAdd, Nat.reduceMul, Nat.reduceSub, Nat.reduceLeDiff, Int.reduceNeg, Int.reduceLT, Int.reduceLE, Int.reduceEq, Int.reduceAdd, Int.reduceToNat])
    rw [if_neg (by omega), if_pos (by omega)] at h
    exact .inl h
  · rw [if_neg (show ¬ l.length = 0 by omega)] at h
    have hlast : l.getD (l.length - 1) 0 < 128 := by
      have := j3 (l[l.length - 1]'(by omega)) (List.getElem_mem _)
      simpa [List.getD_eq_getElem?_getD, show l.length - 1 < l.length by omega] using this
    ((try first | refine walk_aw env_ok (none) ?_ | refine walk_aw envR_ok (none) ?_); try simp -implicitDefEqProofs (maxSteps := 1000000) (disch := omega) only [go_sem, ↓reduceIte, reduceCtorEq, Nat.reduceLT, Nat.reduceEqDiff, Nat.reduceBEq, Nat.reduceAdd, Nat.reduceMul, Nat.reduceSub, Nat.reduceLeDiff, Int.reduceNeg, Int.reduceLT, Int.reduceLE, Int.reduceEq, Int.reduceAdd, Int.reduceToNat, IntWalk.i64_in, IntWalk.u64_in, IntWalk.u8_in, if_pos, if_neg, Bool.and_eq_true, decide_eq_true_eq, show (l.length : Int) - 1 = ((l.length - 1 : Nat) : Int) by omega, uA_at l (l.length - 1) _ (by omega)])
    have hb0 := sval_bound (l := l) (by omega) j3
    (refine condW.br ?_ ?_ <;> intro e2 <;> (try simp only [Bool.not_eq_true', Bool.not_eq_false', decide_eq_false_iff_not, decide_eq_true_eq, Bool.false_eq_true, Bool.and_eq_true, Bool.or_eq_true] at e2))
    all_goals
      ((try first | refine walk_aw env_ok (none) ?_ | refine walk_aw envR_ok (none) ?_); try simp -implicitDefEqProofs (maxSteps := 1000000) (disch := omega) only [go_sem, ↓reduceIte, reduceCtorEq, Nat.reduceLT, Nat.reduceEqDiff, Nat.reduceBEq, Nat.reduceAdd, Nat.reduceMul, Nat.reduceSub, Nat.reduceLeDiff, Int.reduceNeg, Int.reduceLT, Int.reduceLE, Int.reduceEq, Int.reduceAdd, Int.reduceToNat, IntWalk.i64_in, IntWalk.u64_in, IntWalk.u8_in, if_pos, if_neg, Bool.and_eq_true, decide_eq_true_eq, show (l.length : Int) - 1 = ((l.length - 1 : Nat) : Int) by omega])
      refine AW.loop (fun st => ∃ i : Nat, i + 1 ≤ l.length ∧ st.σ 5 = .int .i64 ((i : Int) - 1) ∧ st.σ 4 = .int .i64 (sdrop l i) ∧ (i = 0 → l.length = 10 → -72057594037927936 ≤ sdrop l 1 ∧ sdrop l 1 ≤ 72057594037927935) ∧ st.σ 3 = .sl (uA l) none () ∧ st.σ 0 = .ptr (some (p, 0)) ∧ st.H = H.set p (.cells s2.ref))
        (fun st => match st.σ 5 with | .int _ i => (i + 1).toNat | _ => 0) ⟨l.length - 1, by omega, ?_, ?_, by omega, rfl, rfl, rfl⟩ ?_
      rotate_right
      · rintro ⟨σ, H2⟩ ⟨i, hi, h5, h4, hb, h3, h0, rfl⟩
        simp only at h5 h4 h3 h0
        ((try first | refine walk_aw env_ok (none) ?_ | refine walk_aw envR_ok (none) ?_); try simp -implicitDefEqProofs (maxSteps := 1000000) only [go_sem, ↓reduceIte, reduceCtorEq, Nat.reduceLT, Nat.reduceEqDiff, Nat.reduceBEq, Nat.reduceAdd, Nat.reduceMul, Nat.reduceSub, Nat.reduceLeDiff, Int.reduceNeg, Int.reduceLT, Int.reduceLE, Int.reduceEq, Int.reduceAdd, Int.reduceToNat, h5])
        (refine condW.br ?_ ?_ <;> intro e3 <;> (try simp only [Bool.not_eq_true', Bool.not_eq_false', decide_eq_false_iff_not, decide_eq_true_eq, Bool.false_eq_true, Bool.and_eq_true, Bool.or_eq_true] at e3))
        · obtain ⟨j, rfl⟩ : ∃ j, i = j + 1 := ⟨i - 1, by omega⟩
          rw [show ((j + 1 : Nat) : Int) - 1 = j by omega] at h5
          have hst : sdrop l j = (l.getD j 0 : Int) + 128 * sdrop l (j + 1) := by
            unfold sdrop
            rw [List.drop_eq_getElem_cons (show j < l.length by omega), sval_cons _ (by simp; omega)]
            simp [List.getD_eq_getElem?_getD, show j < l.length by omega]
          have hlj : l.getD j 0 < 128 := by
            have := j3 (l[j]'(by omega)) (List.getElem_mem _)
            simpa [List.getD_eq_getElem?_getD, show j < l.length by omega] using this
          have hfail : ¬ (-72057594037927936 ≤ sdrop l (j + 1) ∧ sdrop l (j + 1) ≤ 72057594037927935) → l.length = 10 ∧ l.getD 9 0 ≠ 0 ∧ l.getD 9 0 ≠ 127 := by
            intro hf
            have hbd := sval_bound (l := l.drop (j + 1)) (by simp; omega) fun x hx => j3 x (List.mem_of_mem_drop hx)
            rw [List.length_drop] at hbd
            have h9 : ¬ l.length - (j + 1) - 1 ≤ 7 := by
              intro hc
              have hp8 : (128 : Int) ^ (l.length - (j + 1) - 1) ≤ 128 ^ 7 := by exact_mod_cast Nat.pow_le_pow_right (by omega) hc
              unfold sdrop at hf
              omega
            have hj : j = 0 := by omega
            subst hj
            have hl10 : l.length = 10 := by omega
            exact ⟨hl10, Decidable.not_not.1 (fun c => hf ((sdrop1 hl10 j3).2 c))⟩
          by_cases r1 : sdrop l (j + 1) < -72057594037927936
          · ((try first | refine walk_aw env_ok (none) ?_ | refine walk_aw envR_ok (none) ?_); try simp -implicitDefEqProofs (maxSteps := 1000000) only [go_sem, ↓reduceIte, reduceCtorEq, Nat.reduceLT, Nat.reduceEqDiff, Nat.reduceBEq, Nat.reduceAdd, Nat.reduceMul, Nat.reduceSub, Nat.reduceLeDiff, Int.reduceNeg, Int.reduceLT, Int.reduceLE, Int.reduceEq, Int.reduceAdd, Int.reduceToNat, h4, r1])
            ((try first | refine walk_aw env_ok (none) ?_ | refine walk_aw envR_ok (none) ?_); try simp -implicitDefEqProofs (maxSteps := 1000000) only [go_sem, ↓reduceIte, reduceCtorEq, Nat.reduceLT, Nat.reduceEqDiff, Nat.reduceBEq, Nat.reduceAdd, Nat.reduceMul, Nat.reduceSub, Nat.reduceLeDiff, Int.reduceNeg, Int.reduceLT, Int.reduceLE, Int.reduceEq, Int.reduceAdd, Int.reduceToNat, h0])
            refine rFail_spec (hps s2) ?_
            ((try first | refine walk_aw env_ok (none) ?_ | refine walk_aw envR_ok (none) ?_); try simp -implicitDefEqProofs (maxSteps := 1000000) only [go_sem, ↓reduceIte, reduceCtorEq, Nat.reduceLT, Nat.reduceEqDiff, Nat.reduceBEq, Nat.reduceAdd, Nat.reduceMul, Nat.reduceSub, Nat.reduceLeDiff, Int.reduceNeg, Int.reduceLT, Int.reduceLE, Int.reduceEq, Int.reduceAdd, Int.reduceToNat, set_set])
            rw [if_pos (hfail (by omega))] at h
            exact .inl h
          by_cases r2 : sdrop l (j + 1) > 72057594037927935
          · ((try first | refine walk_aw env_ok (none) ?_ | refine walk_aw envR_ok (none) ?_); try simp -implicitDefEqProofs (maxSteps := 1000000) only [go_sem, ↓reduceIte, reduceCtorEq, Nat.reduceLT, Nat.reduceEqDiff, Nat.reduceBEq, Nat.reduceAdd, Nat.reduceMul, Nat.reduceSub, Nat.reduceLeDiff, Int.reduceNeg, Int.reduceLT, Int.reduceLE, Int.reduceEq, Int.reduceAdd, Int.reduceToNat, h4, r1, r2])
            ((try first | refine walk_aw env_ok (none) ?_ | refine walk_aw envR_ok (none) ?_); try simp -implicitDefEqProofs (maxSteps := 1000000) only [go_sem, ↓reduceIte, reduceCtorEq, Nat.reduceLT, Nat.reduceEqDiff, Nat.reduceBEq, Nat.reduceAdd, Nat.reduceMul, Nat.reduceSub, Nat.reduceLeDiff, Int.reduceNeg, Int.reduceLT, Int.reduceLE, Int.reduceEq, Int.reduceAdd, Int.reduceToNat, h0])
            refine rFail_spec (hps s2) ?_
            ((try first | refine walk_aw env_ok (none) ?_ | refine walk_aw envR_ok (none) ?_); try simp -implicitDefEqProofs (maxSteps := 1000000) only [go_sem, ↓reduceIte, reduceCtorEq, Nat.reduceLT, Nat.reduceEqDiff, Nat.reduceBEq, Nat.reduceAdd, Nat.reduceMul, Nat.reduceSub, Nat.reduceLeDiff, Int.reduceNeg, Int.reduceLT, Int.reduceLE, Int.reduceEq, Int.reduceAdd, Int.reduceToNat, set_set])
            rw [if_pos (hfail (by omega))] at h
            exact .inl h
          · ((try first | refine walk_aw env_ok (none) ?_ | refine walk_aw envR_ok (none) ?_); try simp -implicitDefEqProofs (maxSteps := 1000000) only [go_sem, ↓reduceIte, reduceCtorEq, Nat.reduceLT, Nat.reduceEqDiff, Nat.reduceBEq, Nat.reduceAdd, Nat.reduceMul, Nat.reduceSub, Nat.reduceLeDiff, Int.reduceNeg, Int.reduceLT, Int.reduceLE, Int.reduceEq, Int.reduceAdd, Int.reduceToNat, h4, r1, r2])
            ((try first | refine walk_aw env_ok (none) ?_ | refine walk_aw envR_ok (none) ?_); try simp -implicitDefEqProofs (maxSteps := 1000000) (disch := omega) only [go_sem, ↓reduceIte, reduceCtorEq, Nat.reduceLT, Nat.reduceEqDiff, Nat.reduceBEq, Nat.reduceAdd, Nat.reduceMul, Nat.reduceSub, Nat.reduceLeDiff, Int.reduceNeg, Int.reduceLT, Int.reduceLE, Int.reduceEq, Int.reduceAdd, Int.reduceToNat, IntWalk.i64_in, IntWalk.u64_in, IntWalk.u8_in, if_pos, if_neg, Bool.and_eq_true, decide_eq_true_eq, h0, h4, h5, h3, uA_at l j _ (by omega)])
            refine ⟨⟨j, by omega, rfl, ?_, ?_⟩, by omega⟩
            · exact congrArg (V.int .i64) (by omega)
            · rintro rfl _
              show -72057594037927936 ≤ sdrop l (0 + 1) ∧ sdrop l (0 + 1) ≤ 72057594037927935
              omega
        · ((try first | refine walk_aw env_ok (none) ?_ | refine walk_aw envR_ok (none) ?_); try simp -implicitDefEqProofs (maxSteps := 1000000) only [go_sem, ↓reduceIte, reduceCtorEq, Nat.reduceLT, Nat.reduceEqDiff, Nat.reduceBEq, Nat.reduceAdd, Nat.reduceMul, Nat.reduceSub, Nat.reduceLeDiff, Int.reduceNeg, Int.reduceLT, Int.reduceLE, Int.reduceEq, Int.reduceAdd, Int.reduceToNat, h4])
          refine .inl ?_
          have : i = 0 := by omega
          subst this
          rw [if_neg (fun c => (sdrop1 c.1 j3).1 (hb rfl c.1) c.2)] at h
          exact h
      · exact congrArg (V.int .i64) (by omega)
      · refine congrArg (V.int .i64) ?_
        rw [sdrop_last (by omega)]
        split <;> omega
end
end Go.Ab
end

section
/- Packages cstr and sindriref03: texts. -/
namespace Go.Ab
open V Go.Proofs
set_option maxHeartbeats 4000000
set_option maxRecDepth 10000
set_option linter.unusedSimpArgs false
set_option linter.unusedVariables false

/-- May a text be? -/
def textOk (s : ByteArray) : Bool := decide (∀ x ∈ s.data.toList, x ≠ 0) && decide (s.size ≤ 200)

section
variable {s : ByteArray} {H : Heap} {Q : A → Heap → Prop}

theorem IndexByteString_spec {c : Int} (h : Q (.int .i64 (firstIdx s c.toNat.toUInt8)) H) : AC Tryd.prog 72 [.str s, .int .u8 c] H Q :=
  AC.indexByteString (fn := Tryd.f72) Tryd.func72 (by kernel_rfl) (by kernel_rfl) (by kernel_rfl) (by kernel_rfl) h

theorem liteIndex_spec {c : Int} (h : Q (.int .i64 (firstIdx s c.toNat.toUInt8)) H) : AC Tryd.prog 68 [.str s, .int .u8 c] H Q := by
  refine AC.enter (E := env Tryd.prog 8 (fun _ => .copy) (fun _ => false)) env_ok Tryd.func68 rfl rfl rfl (by simp only [List.length_cons, List.length_nil]; exact of_decide_eq_true rfl) ?_
  ((try first | refine walk_aw env_ok (none) ?_ | refine walk_aw envR_ok (none) ?_); try simp -implicitDefEqProofs (maxSteps := 1000000) only [go_sem, ↓reduceIte, reduceCtorEq, Nat.reduceLT, Nat.reduceEqDiff, Nat.reduceBEq, Nat.reduceAdd, Nat.reduceMul, Nat.reduceSub, Nat.reduceLeDiff, Int.reduceNeg, Int.reduceLT, Int.reduceLE, Int.reduceEq, Int.reduceAdd, Int.reduceToNat])
  refine IndexByteString_spec ?_
  ((try first | refine walk_aw env_ok (none) ?_ | refine walk_aw envR_ok (none) ?_); try simp -implicitDefEqProofs (maxSteps := 1000000) only [go_sem, ↓reduceIte, reduceCtorEq, Nat.reduceLT, Nat.reduceEqDiff, Nat.reduceBEq, Nat.reduceAdd, Nat.reduceMul, Nat.reduceSub, Nat.reduceLeDiff, Int.reduceNeg, Int.reduceLT, Int.reduceLE, Int.reduceEq, Int.reduceAdd, Int.reduceToNat])
  exact .inl h

theorem IndexByte_spec {c : Int} (h : Q (.int .i64 (firstIdx s c.toNat.toUInt8)) H) : AC Tryd.prog 55 [.str s, .int .u8 c] H Q := by
  refine AC.enter (E := env Tryd.prog 8 (fun _ => .copy) (fun _ => false)) env_ok Tryd.func55 rfl rfl rfl (by simp only [List.length_cons, List.length_nil]; exact of_decide_eq_true rfl) ?_
  ((try first | refine walk_aw env_ok (none) ?_ | refine walk_aw envR_ok (none) ?_); try simp -implicitDefEqProofs (maxSteps := 1000000) only [go_sem, ↓reduceIte, reduceCtorEq, Nat.reduceLT, Nat.reduceEqDiff, Nat.reduceBEq, Nat.reduceAdd, Nat.reduceMul, Nat.reduceSub, Nat.reduceLeDiff, Int.reduceNeg, Int.reduceLT, Int.reduceLE, Int.reduceEq, Int.reduceAdd, Int.reduceToNat])
  refine liteIndex_spec ?_
  ((try first | refine walk_aw env_ok (none) ?_ | refine walk_aw envR_ok (none) ?_); try simp -implicitDefEqProofs (maxSteps := 1000000) only [go_sem, ↓reduceIte, reduceCtorEq, Nat.reduceLT, Nat.reduceEqDiff, Nat.reduceBEq, Nat.reduceAdd, Nat.reduceMul, Nat.reduceSub, Nat.reduceLeDiff, Int.reduceNeg, Int.reduceLT, Int.reduceLE, Int.reduceEq, Int.reduceAdd, Int.reduceToNat])
  exact .inl h

theorem cstrRight_spec (h : Q (.bool (textOk s)) H) : AC Tryd.prog 38 [.str s] H Q := by
  refine AC.enter (E := env Tryd.prog 11 (fun _ => .copy) (fun _ => false)) env_ok Tryd.func38 rfl rfl rfl (by simp only [List.length_cons, List.length_nil]; exact of_decide_eq_true rfl) ?_
  ((try first | refine walk_aw env_ok (none) ?_ | refine walk_aw envR_ok (none) ?_); try simp -implicitDefEqProofs (maxSteps := 1000000) only [go_sem, ↓reduceIte, reduceCtorEq, Nat.reduceLT, Nat.reduceEqDiff, Nat.reduceBEq, Nat.reduceAdd, Nat.reduceMul, Nat.reduceSub, Nat.reduceLeDiff, Int.reduceNeg, Int.reduceLT, Int.reduceLE, Int.reduceEq, Int.reduceAdd, Int.reduceToNat])
  refine IndexByte_spec ?_
  have hn := firstIdx_neg s 0
  rw [show ((0 : Int).toNat.toUInt8) = 0 from rfl]
  by_cases c : firstIdx s 0 < 0
  · ((try first | refine walk_aw env_ok (none) ?_ | refine walk_aw envR_ok (none) ?_); try simp -implicitDefEqProofs (maxSteps := 1000000) only [go_sem, ↓reduceIte, reduceCtorEq, Nat.reduceLT, Nat.reduceEqDiff, Nat.reduceBEq, Nat.reduceAdd, Nat.reduceMul, Nat.reduceSub, Nat.reduceLeDiff, Int.reduceNeg, Int.reduceLT, Int.reduceLE, Int.reduceEq, Int.reduceAdd, Int.reduceToNat, c])
    rw [textOk, decide_eq_true (hn.1 c), Bool.true_and] at h
    rw [show decide ((s.size : Int) ≤ 200) = decide (s.size ≤ 200) by apply decide_eq_decide.2; omega]
    exact .inl h
  · ((try first | refine walk_aw env_ok (none) ?_ | refine walk_aw envR_ok (none) ?_); try simp -implicitDefEqProofs (maxSteps := 1000000) only [go_sem, ↓reduceIte, reduceCtorEq, Nat.reduceLT, Nat.reduceEqDiff, Nat.reduceBEq, Nat.reduceAdd, Nat.reduceMul, Nat.reduceSub, Nat.reduceLeDiff, Int.reduceNeg, Int.reduceLT, Int.reduceLE, Int.reduceEq, Int.reduceAdd, Int.reduceToNat, c])
    rw [textOk, decide_eq_false (fun x => c (hn.2 x)), Bool.false_and] at h
    exact .inl h

theorem rRight_spec (hsz : s.size < 4611686018427387904) (h : Q (.bool (textOk s)) H) : AC Tryd.prog 41 [.str s] H Q := by
  refine AC.enter (E := env Tryd.prog 17 (fun _ => .copy) (fun _ => false)) env_ok Tryd.func41 rfl rfl rfl (by simp only [List.length_cons, List.length_nil]; exact of_decide_eq_true rfl) ?_
  ((try first | refine walk_aw env_ok (none) ?_ | refine walk_aw envR_ok (none) ?_); try simp -implicitDefEqProofs (maxSteps := 1000000) only [go_sem, ↓reduceIte, reduceCtorEq, Nat.reduceLT, Nat.reduceEqDiff, Nat.reduceBEq, Nat.reduceAdd, Nat.reduceMul, Nat.reduceSub, Nat.reduceLeDiff, Int.reduceNeg, Int.reduceLT, Int.reduceLE, Int.reduceEq, Int.reduceAdd, Int.reduceToNat])
  have hlen : s.data.toList.length = s.size := by simp
  refine AW.loop (fun st => ∃ i : Nat, i ≤ s.size ∧ st.σ 3 = .int .i64 i ∧ (∀ x ∈ s.data.toList.take i, x ≠ 0) ∧ st.σ 0 = .str s ∧ st.H = H)
    (fun st => match st.σ 3 with | .int _ i => s.size - i.toNat | _ => 0) ⟨0, by omega, rfl, by simp, rfl, rfl⟩ ?_
  rintro ⟨σ, H2⟩ ⟨i, hi, h3, hz, h0, rfl⟩
  simp only at h3 h0
  ((try first | refine walk_aw env_ok (none) ?_ | refine walk_aw envR_ok (none) ?_); try simp -implicitDefEqProofs (maxSteps := 1000000) only [go_sem, ↓reduceIte, reduceCtorEq, Nat.reduceLT, Nat.reduceEqDiff, Nat.reduceBEq, Nat.reduceAdd, Nat.reduceMul, Nat.reduceSub, Nat.reduceLeDiff, Int.reduceNeg, Int.reduceLT, Int.reduceLE, Int.reduceEq, Int.reduceAdd, Int.reduceToNat, h3, h0])
  (refine condW.br ?_ ?_ <;> intro e <;> (try simp only [Bool.not_eq_true', Bool.not_eq_false', decide_eq_false_iff_not, decide_eq_true_eq, Bool.false_eq_true, Bool.and_eq_true, Bool.or_eq_true] at e))
  · have hx : s.data.toList.getD i 0 = s.data.toList[i]'(by omega) := by
      rw [List.getD_eq_getElem?_getD, List.getElem?_eq_getElem (by omega)]; rfl
    ((try first | refine walk_aw env_ok (none) ?_ | refine walk_aw envR_ok (none) ?_); try simp -implicitDefEqProofs (maxSteps := 1000000) (disch := omega) only [go_sem, ↓reduceIte, reduceCtorEq, Nat.reduceLT, Nat.reduceEqDiff, Nat.reduceBEq, Nat.reduceAdd, Nat.reduceMul, Nat.reduceSub, Nat.reduceLeDiff, Int.reduceNeg, Int.reduceLT, Int.reduceLE, Int.reduceEq, Int.reduceAdd, Int.reduceToNat, IntWalk.i64_in, IntWalk.u64_in, IntWalk.u8_in, if_pos, if_neg, Bool.and_eq_true, decide_eq_true_eq, h3, h0])
    (refine condW.br ?_ ?_ <;> intro e2 <;> (try simp only [Bool.not_eq_true', Bool.not_eq_false', decide_eq_false_iff_not, decide_eq_true_eq, Bool.false_eq_true, Bool.and_eq_true, Bool.or_eq_true] at e2))
    · ((try first | refine walk_aw env_ok (none) ?_ | refine walk_aw envR_ok (none) ?_); try simp -implicitDefEqProofs (maxSteps := 1000000) only [go_sem, ↓reduceIte, reduceCtorEq, Nat.reduceLT, Nat.reduceEqDiff, Nat.reduceBEq, Nat.reduceAdd, Nat.reduceMul, Nat.reduceSub, Nat.reduceLeDiff, Int.reduceNeg, Int.reduceLT, Int.reduceLE, Int.reduceEq, Int.reduceAdd, Int.reduceToNat])
      have hb : s.data.toList.getD i 0 = 0 := UInt8.toNat_inj.1 (by rw [show (0 : UInt8).toNat = 0 from rfl]; omega)
      rw [textOk, decide_eq_false, Bool.false_and] at h
      · exact .inl h
      · intro c
        exact c _ (by rw [hx]; exact List.getElem_mem _) hb
    · ((try first | refine walk_aw env_ok (none) ?_ | refine walk_aw envR_ok (none) ?_); try simp -implicitDefEqProofs (maxSteps := 1000000) (disch := omega) only [go_sem, ↓reduceIte, reduceCtorEq, Nat.reduceLT, Nat.reduceEqDiff, Nat.reduceBEq, Nat.reduceAdd, Nat.reduceMul, Nat.reduceSub, Nat.reduceLeDiff, Int.reduceNeg, Int.reduceLT, Int.reduceLE, Int.reduceEq, Int.reduceAdd, Int.reduceToNat, IntWalk.i64_in, IntWalk.u64_in, IntWalk.u8_in, if_pos, if_neg, Bool.and_eq_true, decide_eq_true_eq, h3])
      refine ⟨⟨i + 1, by omega, rfl, ?_, h0⟩, by omega⟩
      intro x hx2
      rw [List.take_succ_eq_append_getElem (by omega)] at hx2
      rcases List.mem_append.1 hx2 with hx2 | hx2
      · exact hz x hx2
      · rw [List.mem_singleton.1 hx2, ← hx]
        intro c
        rw [c] at e2
        exact e2 rfl
  · ((try first | refine walk_aw env_ok (none) ?_ | refine walk_aw envR_ok (none) ?_); try simp -implicitDefEqProofs (maxSteps := 1000000) only [go_sem, ↓reduceIte, reduceCtorEq, Nat.reduceLT, Nat.reduceEqDiff, Nat.reduceBEq, Nat.reduceAdd, Nat.reduceMul, Nat.reduceSub, Nat.reduceLeDiff, Int.reduceNeg, Int.reduceLT, Int.reduceLE, Int.reduceEq, Int.reduceAdd, Int.reduceToNat, h0])
    have hi' : i = s.size := by omega
    rw [hi', List.take_of_length_le (by omega)] at hz
    rw [textOk, decide_eq_true hz, Bool.true_and] at h
    rw [show decide ((s.size : Int) ≤ 200) = decide (s.size ≤ 200) by apply decide_eq_decide.2; omega]
    exact .inl h
end
end Go.Ab
end

section
/- Package cursor, once more; raw: numbers and bytes that are read. -/
namespace Go.Ab
open V Go.Proofs
set_option maxHeartbeats 4000000
set_option maxRecDepth 10000
set_option linter.unusedSimpArgs false
set_option linter.unusedVariables false

section
variable {p : Nat} {s : CS} {H : Heap} {Q : A → Heap → Prop}
theorem At_spec (hp : H[p]? = some (.cells s.cur)) (h : Q (.int .i64 s.pos) H) : AC Tryd.prog 13 [.ptr (some (p, 0))] H Q := by
  refine AC.enter (E := env Tryd.prog 9 (fun _ => .copy) (fun _ => false)) env_ok Tryd.func13 rfl rfl rfl (by simp only [List.length_cons, List.length_nil]; exact of_decide_eq_true rfl) ?_
  ((try first | refine walk_aw env_ok (none) ?_ | refine walk_aw envR_ok (none) ?_); try simp -implicitDefEqProofs (maxSteps := 1000000) only [go_sem, ↓reduceIte, reduceCtorEq, Nat.reduceLT, Nat.reduceEqDiff, Nat.reduceBEq, Nat.reduceAdd, Nat.reduceMul, Nat.reduceSub, Nat.reduceLeDiff, Int.reduceNeg, Int.reduceLT, Int.reduceLE, Int.reduceEq, Int.reduceAdd, Int.reduceToNat, hp])
  exact .inl h

def CS.seek (s : CS) (n : Nat) : CS := if s.err = 0 then (if n > s.b.length then { s with err := 10 } else { s with pos := n }) else s
theorem cur_s1 (s : CS) (n : Nat) : s.cur.take 1 ++ [.int .i64 (n : Int)] ++ s.cur.drop 2 = ({ s with pos := n } : CS).cur := rfl

theorem Seek_spec {n : Nat} (hn : n < 18446744073709551616) (hs : s.Ok) (hp : H[p]? = some (.cells s.cur)) (h : Q (.tup []) (H.set p (.cells (s.seek n).cur))) : AC Tryd.prog 62 [.ptr (some (p, 0)), .int .u64 n] H Q := by
  obtain ⟨o1, o2, o3, o4⟩ := id hs
  refine AC.enter (E := env Tryd.prog 24 (fun _ => .copy) (fun _ => false)) env_ok Tryd.func62 rfl rfl rfl (by simp only [List.length_cons, List.length_nil]; exact of_decide_eq_true rfl) ?_
  ((try first | refine walk_aw env_ok (none) ?_ | refine walk_aw envR_ok (none) ?_); try simp -implicitDefEqProofs (maxSteps := 1000000) only [go_sem, ↓reduceIte, reduceCtorEq, Nat.reduceLT, Nat.reduceEqDiff, Nat.reduceBEq, Nat.reduceAdd, Nat.reduceMul, Nat.reduceSub, Nat.reduceLeDiff, Int.reduceNeg, Int.reduceLT, Int.reduceLE, Int.reduceEq, Int.reduceAdd, Int.reduceToNat])
  refine Err_spec hp ?_
  by_cases e : s.err = 0
  · ((try first | refine walk_aw env_ok (none) ?_ | refine walk_aw envR_ok (none) ?_); try simp -implicitDefEqProofs (maxSteps := 1000000) only [go_sem, ↓reduceIte, reduceCtorEq, Nat.reduceLT, Nat.reduceEqDiff, Nat.reduceBEq, Nat.reduceAdd, Nat.reduceMul, Nat.reduceSub, Nat.reduceLeDiff, Int.reduceNeg, Int.reduceLT, Int.reduceLE, Int.reduceEq, Int.reduceAdd, Int.reduceToNat, e])
    ((try first | refine walk_aw env_ok (none) ?_ | refine walk_aw envR_ok (none) ?_); try simp -implicitDefEqProofs (maxSteps := 1000000) (disch := omega) only [go_sem, ↓reduceIte, reduceCtorEq, Nat.reduceLT, Nat.reduceEqDiff, Nat.reduceBEq, Nat.reduceAdd, Nat.reduceMul, Nat.reduceSub, Nat.reduceLeDiff, Int.reduceNeg, Int.reduceLT, Int.reduceLE, Int.reduceEq, Int.reduceAdd, Int.reduceToNat, IntWalk.i64_in, IntWalk.u64_in, IntWalk.u8_in, if_pos, if_neg, Bool.and_eq_true, decide_eq_true_eq, hp])
    by_cases e2 : (n : Int) > s.b.length
    · ((try first | refine walk_aw env_ok (none) ?_ | refine walk_aw envR_ok (none) ?_); try simp -implicitDefEqProofs (maxSteps := 1000000) only [go_sem, ↓reduceIte, reduceCtorEq, Nat.reduceLT, Nat.reduceEqDiff, Nat.reduceBEq, Nat.reduceAdd, Nat.reduceMul, Nat.reduceSub, Nat.reduceLeDiff, Int.reduceNeg, Int.reduceLT, Int.reduceLE, Int.reduceEq, Int.reduceAdd, Int.reduceToNat, e2])
      refine Fail_spec hp ?_
      ((try first | refine walk_aw env_ok (none) ?_ | refine walk_aw envR_ok (none) ?_); try simp -implicitDefEqProofs (maxSteps := 1000000) only [go_sem, ↓reduceIte, reduceCtorEq, Nat.reduceLT, Nat.reduceEqDiff, Nat.reduceBEq, Nat.reduceAdd, Nat.reduceMul, Nat.reduceSub, Nat.reduceLeDiff, Int.reduceNeg, Int.reduceLT, Int.reduceLE, Int.reduceEq, Int.reduceAdd, Int.reduceToNat])
      rw [CS.seek, if_pos e, if_pos (by omega)] at h
      rw [CS.fail, if_pos e]
      exact .inl h
    · ((try first | refine walk_aw env_ok (none) ?_ | refine walk_aw envR_ok (none) ?_); try simp -implicitDefEqProofs (maxSteps := 1000000) only [go_sem, ↓reduceIte, reduceCtorEq, Nat.reduceLT, Nat.reduceEqDiff, Nat.reduceBEq, Nat.reduceAdd, Nat.reduceMul, Nat.reduceSub, Nat.reduceLeDiff, Int.reduceNeg, Int.reduceLT, Int.reduceLE, Int.reduceEq, Int.reduceAdd, Int.reduceToNat, e2])
      rw [CS.seek, if_pos e, if_neg (by omega)] at h
      ((try first | refine walk_aw env_ok (none) ?_ | refine walk_aw envR_ok (none) ?_); try simp -implicitDefEqProofs (maxSteps := 1000000) (disch := omega) only [go_sem, ↓reduceIte, reduceCtorEq, Nat.reduceLT, Nat.reduceEqDiff, Nat.reduceBEq, Nat.reduceAdd, Nat.reduceMul, Nat.reduceSub, Nat.reduceLeDiff, Int.reduceNeg, Int.reduceLT, Int.reduceLE, Int.reduceEq, Int.reduceAdd, Int.reduceToNat, IntWalk.i64_in, IntWalk.u64_in, IntWalk.u8_in, if_pos, if_neg, Bool.and_eq_true, decide_eq_true_eq, hp, cur_s1])
      exact .inl h
  · ((try first | refine walk_aw env_ok (none) ?_ | refine walk_aw envR_ok (none) ?_); try simp -implicitDefEqProofs (maxSteps := 1000000) only [go_sem, ↓reduceIte, reduceCtorEq, Nat.reduceLT, Nat.reduceEqDiff, Nat.reduceBEq, Nat.reduceAdd, Nat.reduceMul, Nat.reduceSub, Nat.reduceLeDiff, Int.reduceNeg, Int.reduceLT, Int.reduceLE, Int.reduceEq, Int.reduceAdd, Int.reduceToNat, e])
    rw [CS.seek, if_neg e, set_same hp] at h
    exact .inl h

theorem Bytes_spec {n : Nat} (hn : n < 18446744073709551616) (hb : s.b.length < 140737488355328) (hs : s.Ok) (hp : H[p]? = some (.cells s.cur)) (h : Q (.sl (bA (s.take n).1) none ()) (H.set p (.cells (s.take n).2.cur))) :
    AC Tryd.prog 63 [.ptr (some (p, 0)), .int .u64 n] H Q := by
  have hle : (s.take n).1.length ≤ s.b.length := by rw [CS.take]; split <;> (try split) <;> simp; omega
  refine AC.enter (E := env Tryd.prog 15 (fun _ => .copy) (fun t => t == 4)) env_ok Tryd.func63 rfl rfl rfl (by simp only [List.length_cons, List.length_nil]; exact of_decide_eq_true rfl) ?_
  ((try first | refine walk_aw env_ok (none) ?_ | refine walk_aw envR_ok (none) ?_); try simp -implicitDefEqProofs (maxSteps := 1000000) only [go_sem, ↓reduceIte, reduceCtorEq, Nat.reduceLT, Nat.reduceEqDiff, Nat.reduceBEq, Nat.reduceAdd, Nat.reduceMul, Nat.reduceSub, Nat.reduceLeDiff, Int.reduceNeg, Int.reduceLT, Int.reduceLE, Int.reduceEq, Int.reduceAdd, Int.reduceToNat])
  refine next_spec hn hs hp ?_
  ((try first | refine walk_aw env_ok (none) ?_ | refine walk_aw envR_ok (none) ?_); try simp -implicitDefEqProofs (maxSteps := 1000000) only [go_sem, ↓reduceIte, reduceCtorEq, Nat.reduceLT, Nat.reduceEqDiff, Nat.reduceBEq, Nat.reduceAdd, Nat.reduceMul, Nat.reduceSub, Nat.reduceLeDiff, Int.reduceNeg, Int.reduceLT, Int.reduceLE, Int.reduceEq, Int.reduceAdd, Int.reduceToNat])
  by_cases e : ((s.take n).1.length : Int) = 0
  · ((try first | refine walk_aw env_ok (none) ?_ | refine walk_aw envR_ok (none) ?_); try simp -implicitDefEqProofs (maxSteps := 1000000) only [go_sem, ↓reduceIte, reduceCtorEq, Nat.reduceLT, Nat.reduceEqDiff, Nat.reduceBEq, Nat.reduceAdd, Nat.reduceMul, Nat.reduceSub, Nat.reduceLeDiff, Int.reduceNeg, Int.reduceLT, Int.reduceLE, Int.reduceEq, Int.reduceAdd, Int.reduceToNat, e])
    rw [show (s.take n).1 = [] from List.eq_nil_of_length_eq_zero (by omega)] at h
    exact .inl h
  · have e2 : (s.take n).1.length ≤ 140737488355328 := by omega
    ((try first | refine walk_aw env_ok (none) ?_ | refine walk_aw envR_ok (none) ?_); try simp -implicitDefEqProofs (maxSteps := 1000000) only [go_sem, ↓reduceIte, reduceCtorEq, Nat.reduceLT, Nat.reduceEqDiff, Nat.reduceBEq, Nat.reduceAdd, Nat.reduceMul, Nat.reduceSub, Nat.reduceLeDiff, Int.reduceNeg, Int.reduceLT, Int.reduceLE, Int.reduceEq, Int.reduceAdd, Int.reduceToNat, e, e2])
    exact .inl h

/-- A number of a size. -/
def CS.num (s : CS) (z : Int) (w : Bool) : Nat × CS :=
  if z = -1 then s.uleb else (le (s.take (min (max (if z = -2 then (if w then 8 else 4) else z) 0) 8).toNat).1, (s.take (min (max (if z = -2 then (if w then 8 else 4) else z) 0) 8).toNat).2)
theorem CS.num_err {s : CS} (h : s.err ≠ 0) (z : Int) (w : Bool) : s.num z w = (0, s) := by
  unfold CS.num; split
  · exact s.uleb_err h
  · rw [CS.take_err h]; rfl
theorem CS.Ok.num {s : CS} (h : s.Ok) (z : Int) (w : Bool) : (s.num z w).2.Ok := by
  unfold CS.num; split
  · exact h.uleb
  · exact h.take _
theorem CS.num_b {s : CS} (h : s.Ok) (z : Int) (w : Bool) : (s.num z w).2.b = s.b := by
  unfold CS.num; split
  · exact s.uleb_b h
  · exact s.take_b _
theorem CS.num_lt {s : CS} (h : s.Ok) (z : Int) (w : Bool) : (s.num z w).1 < 18446744073709551616 := by
  unfold CS.num; split
  · exact s.uleb_lt h
  · generalize hk : (min (max (if z = -2 then (if w then 8 else 4) else z) 0) 8).toNat = k
    have hk8 : k ≤ 8 := by omega
    have h1 := le_lt (s.take k).1
    have h2 : (s.take k).1.length ≤ k := by rw [CS.take]; split <;> (try split) <;> simp; omega
    have h3 : 256 ^ (s.take k).1.length ≤ 256 ^ 8 := Nat.pow_le_pow_right (by omega) (by omega)
    simp only
    omega

theorem number_spec {z : Int} {w : Bool} (hs : s.Ok) (hp : H[p]? = some (.cells s.cur)) (h : Q (.int .u64 ((s.num z w).1 : Nat)) (H.set p (.cells (s.num z w).2.cur))) :
    AC Tryd.prog 48 [.ptr (some (p, 0)), .int .i64 z, .bool w] H Q := by
  refine AC.enter (E := env Tryd.prog 21 (fun _ => .copy) (fun _ => false)) env_ok Tryd.func48 rfl rfl rfl (by simp only [List.length_cons, List.length_nil]; exact of_decide_eq_true rfl) ?_
  ((try first | refine walk_aw env_ok (none) ?_ | refine walk_aw envR_ok (none) ?_); try simp -implicitDefEqProofs (maxSteps := 1000000) only [go_sem, ↓reduceIte, reduceCtorEq, Nat.reduceLT, Nat.reduceEqDiff, Nat.reduceBEq, Nat.reduceAdd, Nat.reduceMul, Nat.reduceSub, Nat.reduceLeDiff, Int.reduceNeg, Int.reduceLT, Int.reduceLE, Int.reduceEq, Int.reduceAdd, Int.reduceToNat])
  by_cases e1 : z = -1
  · ((try first | refine walk_aw env_ok (none) ?_ | refine walk_aw envR_ok (none) ?_); try simp -implicitDefEqProofs (maxSteps := 1000000) only [go_sem, ↓reduceIte, reduceCtorEq, Nat.reduceLT, Nat.reduceEqDiff, Nat.reduceBEq, Nat.reduceAdd, Nat.reduceMul, Nat.reduceSub, Nat.reduceLeDiff, Int.reduceNeg, Int.reduceLT, Int.reduceLE, Int.reduceEq, Int.reduceAdd, Int.reduceToNat, e1])
    refine U_spec hs hp ?_
    ((try first | refine walk_aw env_ok (none) ?_ | refine walk_aw envR_ok (none) ?_); try simp -implicitDefEqProofs (maxSteps := 1000000) only [go_sem, ↓reduceIte, reduceCtorEq, Nat.reduceLT, Nat.reduceEqDiff, Nat.reduceBEq, Nat.reduceAdd, Nat.reduceMul, Nat.reduceSub, Nat.reduceLeDiff, Int.reduceNeg, Int.reduceLT, Int.reduceLE, Int.reduceEq, Int.reduceAdd, Int.reduceToNat])
    rw [CS.num, if_pos e1] at h
    exact .inl h
  · rw [CS.num, if_neg e1] at h
    by_cases e2 : z = -2
    · ((try first | refine walk_aw env_ok (none) ?_ | refine walk_aw envR_ok (none) ?_); try simp -implicitDefEqProofs (maxSteps := 1000000) only [go_sem, ↓reduceIte, reduceCtorEq, Nat.reduceLT, Nat.reduceEqDiff, Nat.reduceBEq, Nat.reduceAdd, Nat.reduceMul, Nat.reduceSub, Nat.reduceLeDiff, Int.reduceNeg, Int.reduceLT, Int.reduceLE, Int.reduceEq, Int.reduceAdd, Int.reduceToNat, e1, e2])
      refine Off_spec ?_
      ((try first | refine walk_aw env_ok (none) ?_ | refine walk_aw envR_ok (none) ?_); try simp -implicitDefEqProofs (maxSteps := 1000000) only [go_sem, ↓reduceIte, reduceCtorEq, Nat.reduceLT, Nat.reduceEqDiff, Nat.reduceBEq, Nat.reduceAdd, Nat.reduceMul, Nat.reduceSub, Nat.reduceLeDiff, Int.reduceNeg, Int.reduceLT, Int.reduceLE, Int.reduceEq, Int.reduceAdd, Int.reduceToNat])
      refine Uint_spec hs hp ?_
      ((try first | refine walk_aw env_ok (none) ?_ | refine walk_aw envR_ok (none) ?_); try simp -implicitDefEqProofs (maxSteps := 1000000) only [go_sem, ↓reduceIte, reduceCtorEq, Nat.reduceLT, Nat.reduceEqDiff, Nat.reduceBEq, Nat.reduceAdd, Nat.reduceMul, Nat.reduceSub, Nat.reduceLeDiff, Int.reduceNeg, Int.reduceLT, Int.reduceLE, Int.reduceEq, Int.reduceAdd, Int.reduceToNat])
      rw [if_pos e2] at h
      exact .inl h
    · ((try first | refine walk_aw env_ok (none) ?_ | refine walk_aw envR_ok (none) ?_); try simp -implicitDefEqProofs (maxSteps := 1000000) only [go_sem, ↓reduceIte, reduceCtorEq, Nat.reduceLT, Nat.reduceEqDiff, Nat.reduceBEq, Nat.reduceAdd, Nat.reduceMul, Nat.reduceSub, Nat.reduceLeDiff, Int.reduceNeg, Int.reduceLT, Int.reduceLE, Int.reduceEq, Int.reduceAdd, Int.reduceToNat, e1, e2])
      refine Uint_spec hs hp ?_
      ((try first | refine walk_aw env_ok (none) ?_ | refine walk_aw envR_ok (none) ?_); try simp -implicitDefEqProofs (maxSteps := 1000000) only [go_sem, ↓reduceIte, reduceCtorEq, Nat.reduceLT, Nat.reduceEqDiff, Nat.reduceBEq, Nat.reduceAdd, Nat.reduceMul, Nat.reduceSub, Nat.reduceLeDiff, Int.reduceNeg, Int.reduceLT, Int.reduceLE, Int.reduceEq, Int.reduceAdd, Int.reduceToNat])
      rw [if_neg e2] at h
      exact .inl h

theorem block_spec {n : Nat} (hn : n < 18446744073709551616) (hb : s.b.length < 140737488355328) (hs : s.Ok) (hp : H[p]? = some (.cells s.cur))
    (h : Q (.sl (bA ((if n > 65536 then s.fail 3 else s).take n).1) none ()) (H.set p (.cells ((if n > 65536 then s.fail 3 else s).take n).2.cur))) :
    AC Tryd.prog 47 [.ptr (some (p, 0)), .int .u64 n] H Q := by
  have hfb : (s.fail 3).b = s.b := s.fail_b 3
  refine AC.enter (E := env Tryd.prog 15 (fun _ => .copy) (fun t => t == 4)) env_ok Tryd.func47 rfl rfl rfl (by simp only [List.length_cons, List.length_nil]; exact of_decide_eq_true rfl) ?_
  ((try first | refine walk_aw env_ok (none) ?_ | refine walk_aw envR_ok (none) ?_); try simp -implicitDefEqProofs (maxSteps := 1000000) only [go_sem, ↓reduceIte, reduceCtorEq, Nat.reduceLT, Nat.reduceEqDiff, Nat.reduceBEq, Nat.reduceAdd, Nat.reduceMul, Nat.reduceSub, Nat.reduceLeDiff, Int.reduceNeg, Int.reduceLT, Int.reduceLE, Int.reduceEq, Int.reduceAdd, Int.reduceToNat])
  by_cases e : (n : Int) > 65536
  · rw [if_pos (by omega)] at h
    ((try first | refine walk_aw env_ok (none) ?_ | refine walk_aw envR_ok (none) ?_); try simp -implicitDefEqProofs (maxSteps := 1000000) only [go_sem, ↓reduceIte, reduceCtorEq, Nat.reduceLT, Nat.reduceEqDiff, Nat.reduceBEq, Nat.reduceAdd, Nat.reduceMul, Nat.reduceSub, Nat.reduceLeDiff, Int.reduceNeg, Int.reduceLT, Int.reduceLE, Int.reduceEq, Int.reduceAdd, Int.reduceToNat, e])
    refine Fail_spec hp ?_
    ((try first | refine walk_aw env_ok (none) ?_ | refine walk_aw envR_ok (none) ?_); try simp -implicitDefEqProofs (maxSteps := 1000000) only [go_sem, ↓reduceIte, reduceCtorEq, Nat.reduceLT, Nat.reduceEqDiff, Nat.reduceBEq, Nat.reduceAdd, Nat.reduceMul, Nat.reduceSub, Nat.reduceLeDiff, Int.reduceNeg, Int.reduceLT, Int.reduceLE, Int.reduceEq, Int.reduceAdd, Int.reduceToNat])
    refine Bytes_spec hn (by rw [hfb]; exact hb) (hs.fail (by omega) (by omega)) (get_set hp) ?_
    ((try first | refine walk_aw env_ok (none) ?_ | refine walk_aw envR_ok (none) ?_); try simp -implicitDefEqProofs (maxSteps := 1000000) only [go_sem, ↓reduceIte, reduceCtorEq, Nat.reduceLT, Nat.reduceEqDiff, Nat.reduceBEq, Nat.reduceAdd, Nat.reduceMul, Nat.reduceSub, Nat.reduceLeDiff, Int.reduceNeg, Int.reduceLT, Int.reduceLE, Int.reduceEq, Int.reduceAdd, Int.reduceToNat, List.set_set])
    exact .inl h
  · rw [if_neg (by omega)] at h
    ((try first | refine walk_aw env_ok (none) ?_ | refine walk_aw envR_ok (none) ?_); try simp -implicitDefEqProofs (maxSteps := 1000000) only [go_sem, ↓reduceIte, reduceCtorEq, Nat.reduceLT, Nat.reduceEqDiff, Nat.reduceBEq, Nat.reduceAdd, Nat.reduceMul, Nat.reduceSub, Nat.reduceLeDiff, Int.reduceNeg, Int.reduceLT, Int.reduceLE, Int.reduceEq, Int.reduceAdd, Int.reduceToNat, e])
    refine Bytes_spec hn hb hs hp ?_
    ((try first | refine walk_aw env_ok (none) ?_ | refine walk_aw envR_ok (none) ?_); try simp -implicitDefEqProofs (maxSteps := 1000000) only [go_sem, ↓reduceIte, reduceCtorEq, Nat.reduceLT, Nat.reduceEqDiff, Nat.reduceBEq, Nat.reduceAdd, Nat.reduceMul, Nat.reduceSub, Nat.reduceLeDiff, Int.reduceNeg, Int.reduceLT, Int.reduceLE, Int.reduceEq, Int.reduceAdd, Int.reduceToNat])
    exact .inl h
end
end Go.Ab
end

section
/- Packages cstr and sindriref03: texts that are read. -/
namespace Go.Ab
open V Go.Proofs
set_option maxHeartbeats 4000000
set_option maxRecDepth 10000
set_option linter.unusedSimpArgs false
set_option linter.unusedVariables false

/-- How many bytes stand ahead of the first 0. -/
def nz : List UInt8 → Nat
  | [] => 0
  | x :: l => if x = 0 then 0 else nz l + 1
theorem nz_le (l : List UInt8) : nz l ≤ l.length := by
  induction l with
  | nil => exact Nat.le_refl _
  | cons x l ih => simp only [nz, List.length_cons]; split <;> omega
theorem nz_all : ∀ (l : List UInt8) (j : Nat), j ≤ l.length → (∀ i, i < j → l.getD i 0 ≠ 0) → nz l = j + nz (l.drop j) := by
  intro l
  induction l with
  | nil => intro j h _; simp at h; subst h; rfl
  | cons x l ih =>
    intro j h hz
    cases j with
    | zero => simp
    | succ j =>
      have h0 := hz 0 (by omega)
      simp only [List.getD_cons_zero] at h0
      rw [nz, if_neg h0, List.drop_succ_cons, ih j (by simpa using h) (fun i hi => by have := hz (i + 1) (by omega); simpa using this)]
      omega
theorem nz_end {l : List UInt8} {j : Nat} (h : j = l.length) (hz : ∀ i, i < j → l.getD i 0 ≠ 0) : nz l = l.length := by
  rw [nz_all l j (by omega) hz, List.drop_of_length_le (by omega)]; simp [nz, h]
theorem nz_at {l : List UInt8} {j : Nat} (h : j < l.length) (hz : ∀ i, i < j → l.getD i 0 ≠ 0) (h0 : l.getD j 0 = 0) : nz l = j := by
  rw [nz_all l j (by omega) hz, List.drop_eq_getElem_cons h, nz]
  rw [List.getD_eq_getElem?_getD, List.getElem?_eq_getElem h, Option.getD_some] at h0
  rw [if_pos h0]; rfl

/-- A text that is read. -/
def CS.text (s : CS) : ByteArray × CS :=
  if s.err = 0 then
    (if nz (s.b.drop s.pos) = (s.b.drop s.pos).length then (⟨#[]⟩, s.fail 12) else if nz (s.b.drop s.pos) > 200 then (⟨#[]⟩, s.fail 3)
     else (⟨((s.b.drop s.pos).take (nz (s.b.drop s.pos))).toArray⟩, { s with pos := s.pos + nz (s.b.drop s.pos) + 1 }))
  else (⟨#[]⟩, s)
theorem CS.text_err {s : CS} (h : s.err ≠ 0) : s.text = (⟨#[]⟩, s) := by rw [CS.text, if_neg h]
theorem CS.Ok.text {s : CS} (h : s.Ok) : s.text.2.Ok := by
  unfold CS.text
  split
  · split
    · exact h.fail (by omega) (by omega)
    · split
      · exact h.fail (by omega) (by omega)
      · have := nz_le (s.b.drop s.pos)
        rename_i h1 h2
        simp only [List.length_drop] at this h1
        obtain ⟨o1, o2, o3, o4⟩ := h
        exact ⟨by simp only; omega, o2, o3, o4⟩
  · exact h
theorem CS.text_b (s : CS) : s.text.2.b = s.b := by
  unfold CS.text; split
  · split
    · exact s.fail_b _
    · split
      · exact s.fail_b _
      · rfl
  · rfl
theorem bytes_conv (l : List UInt8) : (bA l).mapM byteOfA = some l := by
  induction l with
  | nil => rfl
  | cons x l ih =>
    have hx : byteOfA (byteA x) = some x := by simp [byteOfA, byteA]
    simp [bA] at ih ⊢
    rw [hx, ih]; rfl
attribute [go_sem] bytes_conv
theorem take1 {b : List UInt8} {q : Nat} (h : q < b.length) : (CS.mk b q 0).take 1 = ([b.getD q 0], ⟨b, q + 1, 0⟩) := by
  rw [CS.take, if_pos rfl, if_pos (by simp only; omega)]
  simp only
  have : (b.take (q + 1)).drop q = [b.getD q 0] := by
    rw [List.drop_take, List.drop_eq_getElem_cons h, show q + 1 - q = 1 by omega, List.take_succ_cons, List.take_zero, List.getD_eq_getElem?_getD, List.getElem?_eq_getElem h]; rfl
  rw [this]

section
variable {p : Nat} {H : Heap} {Q : A → Heap → Prop}
theorem cText_spec {s : CS} (hs : s.Ok) (hb : s.b.length < 140737488355328) (hp : H[p]? = some (.cells s.cur)) (h : Q (.str s.text.1) (H.set p (.cells s.text.2.cur))) : AC Tryd.prog 46 [.ptr (some (p, 0))] H Q := by
  obtain ⟨b, q, e⟩ := s
  obtain ⟨o1, o2, o3, o4⟩ := id hs
  simp only at o1 o2 o3 o4 hb
  refine AC.enter (E := env Tryd.prog 41 (fun _ => .copy) (fun _ => false)) env_ok Tryd.func46 rfl rfl rfl (by simp only [List.length_cons, List.length_nil]; exact of_decide_eq_true rfl) ?_
  ((try first | refine walk_aw env_ok (none) ?_ | refine walk_aw envR_ok (none) ?_); try simp -implicitDefEqProofs (maxSteps := 1000000) only [go_sem, ↓reduceIte, reduceCtorEq, Nat.reduceLT, Nat.reduceEqDiff, Nat.reduceBEq, Nat.reduceAdd, Nat.reduceMul, Nat.reduceSub, Nat.reduceLeDiff, Int.reduceNeg, Int.reduceLT, Int.reduceLE, Int.reduceEq, Int.reduceAdd, Int.reduceToNat])
  refine Err_spec hp ?_
  by_cases e0 : e = 0
  · subst e0
    have hl : p < H.length := lt_of_get hp
    rw [CS.text, if_pos rfl] at h
    simp only at h
    generalize hr : b.drop q = r at h
    have hrl : r.length = b.length - q := by rw [← hr]; simp
    have hat : ∀ j, r.getD j 0 = b.getD (q + j) 0 := by intro j; rw [← hr]; simp [List.getD_eq_getElem?_getD, List.getElem?_drop]
    ((try first | refine walk_aw env_ok (none) ?_ | refine walk_aw envR_ok (none) ?_); try simp -implicitDefEqProofs (maxSteps := 1000000) only [go_sem, ↓reduceIte, reduceCtorEq, Nat.reduceLT, Nat.reduceEqDiff, Nat.reduceBEq, Nat.reduceAdd, Nat.reduceMul, Nat.reduceSub, Nat.reduceLeDiff, Int.reduceNeg, Int.reduceLT, Int.reduceLE, Int.reduceEq, Int.reduceAdd, Int.reduceToNat])
    refine At_spec hp ?_
    ((try first | refine walk_aw env_ok (none) ?_ | refine walk_aw envR_ok (none) ?_); try simp -implicitDefEqProofs (maxSteps := 1000000) (disch := omega) only [go_sem, ↓reduceIte, reduceCtorEq, Nat.reduceLT, Nat.reduceEqDiff, Nat.reduceBEq, Nat.reduceAdd, Nat.reduceMul, Nat.reduceSub, Nat.reduceLeDiff, Int.reduceNeg, Int.reduceLT, Int.reduceLE, Int.reduceEq, Int.reduceAdd, Int.reduceToNat, IntWalk.i64_in, IntWalk.u64_in, IntWalk.u8_in, if_pos, if_neg, Bool.and_eq_true, decide_eq_true_eq])
    refine AW.loop (fun st => ∃ j, j ≤ r.length ∧ (∀ i, i < j → r.getD i 0 ≠ 0) ∧ st.σ 0 = .ptr (some (p, 0)) ∧ st.σ 3 = .int .u64 q ∧ st.σ 4 = .int .u64 j ∧ st.H = H.set p (.cells (CS.mk b (q + j) 0).cur))
      (fun st => match st.σ 4 with | .int _ i => r.length - i.toNat | _ => 0) ⟨0, by omega, by omega, rfl, rfl, rfl, by rw [set_same]; exact hp⟩ ?_
    rintro ⟨σ, H2⟩ ⟨j, hj, hz, s0, s3, s4, rfl⟩
    simp only at s0 s3 s4
    have hok : (CS.mk b (q + j) 0).Ok := ⟨by simp only; omega, o2, by simp, by simp⟩
    ((try first | refine walk_aw env_ok (none) ?_ | refine walk_aw envR_ok (none) ?_); try simp -implicitDefEqProofs (maxSteps := 1000000) only [go_sem, ↓reduceIte, reduceCtorEq, Nat.reduceLT, Nat.reduceEqDiff, Nat.reduceBEq, Nat.reduceAdd, Nat.reduceMul, Nat.reduceSub, Nat.reduceLeDiff, Int.reduceNeg, Int.reduceLT, Int.reduceLE, Int.reduceEq, Int.reduceAdd, Int.reduceToNat, s0])
    refine Left_spec hok (get_set hp) ?_
    have hleft : (CS.mk b (q + j) 0).left = r.length - j := by rw [CS.left, if_pos rfl]; simp only; omega
    rw [hleft]
    by_cases c : j = r.length
    · have c' : ((r.length - j : Nat) : Int) = 0 := by omega
      ((try first | refine walk_aw env_ok (none) ?_ | refine walk_aw envR_ok (none) ?_); try simp -implicitDefEqProofs (maxSteps := 1000000) only [go_sem, ↓reduceIte, reduceCtorEq, Nat.reduceLT, Nat.reduceEqDiff, Nat.reduceBEq, Nat.reduceAdd, Nat.reduceMul, Nat.reduceSub, Nat.reduceLeDiff, Int.reduceNeg, Int.reduceLT, Int.reduceLE, Int.reduceEq, Int.reduceAdd, Int.reduceToNat, c', s0, s3])
      refine Seek_spec (by omega) hok (get_set hp) ?_
      have hsk : (CS.mk b (q + j) 0).seek q = ⟨b, q, 0⟩ := by rw [CS.seek, if_pos rfl, if_neg (by simp only; omega)]
      rw [hsk, List.set_set]
      ((try first | refine walk_aw env_ok (none) ?_ | refine walk_aw envR_ok (none) ?_); try simp -implicitDefEqProofs (maxSteps := 1000000) only [go_sem, ↓reduceIte, reduceCtorEq, Nat.reduceLT, Nat.reduceEqDiff, Nat.reduceBEq, Nat.reduceAdd, Nat.reduceMul, Nat.reduceSub, Nat.reduceLeDiff, Int.reduceNeg, Int.reduceLT, Int.reduceLE, Int.reduceEq, Int.reduceAdd, Int.reduceToNat, s0])
      refine Fail_spec (get_set hp) ?_
      ((try first | refine walk_aw env_ok (none) ?_ | refine walk_aw envR_ok (none) ?_); try simp -implicitDefEqProofs (maxSteps := 1000000) only [go_sem, ↓reduceIte, reduceCtorEq, Nat.reduceLT, Nat.reduceEqDiff, Nat.reduceBEq, Nat.reduceAdd, Nat.reduceMul, Nat.reduceSub, Nat.reduceLeDiff, Int.reduceNeg, Int.reduceLT, Int.reduceLE, Int.reduceEq, Int.reduceAdd, Int.reduceToNat])
      rw [if_pos (nz_end c hz)] at h
      rw [List.set_set]
      exact .inl h
    · have c' : ¬ ((r.length - j : Nat) : Int) = 0 := by omega
      ((try first | refine walk_aw env_ok (none) ?_ | refine walk_aw envR_ok (none) ?_); try simp -implicitDefEqProofs (maxSteps := 1000000) only [go_sem, ↓reduceIte, reduceCtorEq, Nat.reduceLT, Nat.reduceEqDiff, Nat.reduceBEq, Nat.reduceAdd, Nat.reduceMul, Nat.reduceSub, Nat.reduceLeDiff, Int.reduceNeg, Int.reduceLT, Int.reduceLE, Int.reduceEq, Int.reduceAdd, Int.reduceToNat, c', s0])
      refine U8_spec hok (get_set hp) ?_
      rw [take1 (by omega)]
      have hle : le [b.getD (q + j) 0] = (r.getD j 0).toNat := by rw [hat]; simp [le]
      rw [hle, List.set_set]
      by_cases c2 : r.getD j 0 = 0
      · have hn : nz r = j := nz_at (by omega) hz c2
        rw [hn, if_neg (by omega)] at h
        rw [c2]
        ((try first | refine walk_aw env_ok (none) ?_ | refine walk_aw envR_ok (none) ?_); try simp -implicitDefEqProofs (maxSteps := 1000000) only [go_sem, ↓reduceIte, reduceCtorEq, Nat.reduceLT, Nat.reduceEqDiff, Nat.reduceBEq, Nat.reduceAdd, Nat.reduceMul, Nat.reduceSub, Nat.reduceLeDiff, Int.reduceNeg, Int.reduceLT, Int.reduceLE, Int.reduceEq, Int.reduceAdd, Int.reduceToNat, s0, s3, s4, show ((0 : UInt8).toNat : Int) = 0 from rfl])
        have hok2 : (CS.mk b (q + j + 1) 0).Ok := ⟨by simp only; omega, o2, by simp, by simp⟩
        refine Seek_spec (by omega) hok2 (get_set hp) ?_
        have hsk : (CS.mk b (q + j + 1) 0).seek q = ⟨b, q, 0⟩ := by rw [CS.seek, if_pos rfl, if_neg (by simp only; omega)]
        rw [hsk, List.set_set]
        by_cases c3 : (j : Int) > 200
        · ((try first | refine walk_aw env_ok (none) ?_ | refine walk_aw envR_ok (none) ?_); try simp -implicitDefEqProofs (maxSteps := 1000000) only [go_sem, ↓reduceIte, reduceCtorEq, Nat.reduceLT, Nat.reduceEqDiff, Nat.reduceBEq, Nat.reduceAdd, Nat.reduceMul, Nat.reduceSub, Nat.reduceLeDiff, Int.reduceNeg, Int.reduceLT, Int.reduceLE, Int.reduceEq, Int.reduceAdd, Int.reduceToNat, s0, s4, c3])
          refine Fail_spec (get_set hp) ?_
          ((try first | refine walk_aw env_ok (none) ?_ | refine walk_aw envR_ok (none) ?_); try simp -implicitDefEqProofs (maxSteps := 1000000) only [go_sem, ↓reduceIte, reduceCtorEq, Nat.reduceLT, Nat.reduceEqDiff, Nat.reduceBEq, Nat.reduceAdd, Nat.reduceMul, Nat.reduceSub, Nat.reduceLeDiff, Int.reduceNeg, Int.reduceLT, Int.reduceLE, Int.reduceEq, Int.reduceAdd, Int.reduceToNat])
          rw [if_pos (by omega)] at h
          rw [List.set_set]
          exact .inl h
        · ((try first | refine walk_aw env_ok (none) ?_ | refine walk_aw envR_ok (none) ?_); try simp -implicitDefEqProofs (maxSteps := 1000000) only [go_sem, ↓reduceIte, reduceCtorEq, Nat.reduceLT, Nat.reduceEqDiff, Nat.reduceBEq, Nat.reduceAdd, Nat.reduceMul, Nat.reduceSub, Nat.reduceLeDiff, Int.reduceNeg, Int.reduceLT, Int.reduceLE, Int.reduceEq, Int.reduceAdd, Int.reduceToNat, s0, s4, c3])
          refine Bytes_spec (by omega) hb hs (get_set hp) ?_
          have htk : (CS.mk b q 0).take j = (r.take j, ⟨b, q + j, 0⟩) := by
            rw [CS.take, if_pos rfl, if_pos (by simp only; omega)]
            simp only
            rw [List.drop_take, hr, Nat.add_sub_cancel_left]
          rw [htk, List.set_set]
          ((try first | refine walk_aw env_ok (none) ?_ | refine walk_aw envR_ok (none) ?_); try simp -implicitDefEqProofs (maxSteps := 1000000) only [go_sem, ↓reduceIte, reduceCtorEq, Nat.reduceLT, Nat.reduceEqDiff, Nat.reduceBEq, Nat.reduceAdd, Nat.reduceMul, Nat.reduceSub, Nat.reduceLeDiff, Int.reduceNeg, Int.reduceLT, Int.reduceLE, Int.reduceEq, Int.reduceAdd, Int.reduceToNat, s0])
          refine U8_spec hok (get_set hp) ?_
          rw [take1 (by omega), List.set_set]
          ((try first | refine walk_aw env_ok (none) ?_ | refine walk_aw envR_ok (none) ?_); try simp -implicitDefEqProofs (maxSteps := 1000000) only [go_sem, ↓reduceIte, reduceCtorEq, Nat.reduceLT, Nat.reduceEqDiff, Nat.reduceBEq, Nat.reduceAdd, Nat.reduceMul, Nat.reduceSub, Nat.reduceLeDiff, Int.reduceNeg, Int.reduceLT, Int.reduceLE, Int.reduceEq, Int.reduceAdd, Int.reduceToNat])
          rw [if_neg (by omega)] at h
          exact .inl h
      · have c3 : ¬ ((r.getD j 0).toNat : Int) = 0 := by
          intro hc; exact c2 (UInt8.toNat_inj.1 (by simpa using hc))
        ((try first | refine walk_aw env_ok (none) ?_ | refine walk_aw envR_ok (none) ?_); try simp -implicitDefEqProofs (maxSteps := 1000000) (disch := omega) only [go_sem, ↓reduceIte, reduceCtorEq, Nat.reduceLT, Nat.reduceEqDiff, Nat.reduceBEq, Nat.reduceAdd, Nat.reduceMul, Nat.reduceSub, Nat.reduceLeDiff, Int.reduceNeg, Int.reduceLT, Int.reduceLE, Int.reduceEq, Int.reduceAdd, Int.reduceToNat, IntWalk.i64_in, IntWalk.u64_in, IntWalk.u8_in, if_pos, if_neg, Bool.and_eq_true, decide_eq_true_eq, s4, c3])
        refine ⟨⟨j + 1, by omega, ?_, s0, s3, by simp, by rw [Nat.add_assoc]⟩, by omega⟩
        intro i hi
        by_cases hij : i = j
        · rw [hij]; exact c2
        · exact hz i (by omega)
  · rw [CS.text_err e0, set_same hp] at h
    ((try first | refine walk_aw env_ok (none) ?_ | refine walk_aw envR_ok (none) ?_); try simp -implicitDefEqProofs (maxSteps := 1000000) only [go_sem, ↓reduceIte, reduceCtorEq, Nat.reduceLT, Nat.reduceEqDiff, Nat.reduceBEq, Nat.reduceAdd, Nat.reduceMul, Nat.reduceSub, Nat.reduceLeDiff, Int.reduceNeg, Int.reduceLT, Int.reduceLE, Int.reduceEq, Int.reduceAdd, Int.reduceToNat, e0])
    exact .inl h
end
end Go.Ab
end

section
/- Package sindriref03: texts that are read; sindriref14: sizes and numbers. -/
namespace Go.Ab
open V Go.Proofs
set_option maxHeartbeats 4000000
set_option maxRecDepth 10000
set_option linter.unusedSimpArgs false
set_option linter.unusedVariables false

theorem bA_getD {l : List UInt8} {k : Nat} (h : k < l.length) (u : A) : (bA l).getD k u = .int .u8 ((l.getD k 0).toNat : Int) := by
  rw [List.getD_eq_getElem?_getD, List.getD_eq_getElem?_getD, bA, List.getElem?_map, List.getElem?_eq_getElem h]; rfl

section
variable {p : Nat} {H : Heap} {Q : A → Heap → Prop}
theorem rText_spec {s : CS} (hs : s.Ok) (hb : s.b.length < 140737488355328) (hp : H[p]? = some (.cells s.ref)) (h : Q (.str s.text.1) (H.set p (.cells s.text.2.ref))) : AC Tryd.prog 28 [.ptr (some (p, 0))] H Q := by
  obtain ⟨b, q, e⟩ := s
  obtain ⟨o1, o2, o3, o4⟩ := id hs
  simp only at o1 o2 o3 o4 hb
  refine AC.enter (E := env Tryd.prog 70 (fun _ => .copy) (fun _ => false)) env_ok Tryd.func28 rfl rfl rfl (by simp only [List.length_cons, List.length_nil]; exact of_decide_eq_true rfl) ?_
  by_cases e0 : e = 0
  · subst e0
    have hl : p < H.length := lt_of_get hp
    rw [CS.text, if_pos rfl] at h
    simp only at h
    generalize hr : b.drop q = r at h
    have hrl : r.length = b.length - q := by rw [← hr]; simp
    have hat : ∀ j, r.getD j 0 = b.getD (q + j) 0 := by intro j; rw [← hr]; simp [List.getD_eq_getElem?_getD, List.getElem?_drop]
    ((try first | refine walk_aw env_ok (none) ?_ | refine walk_aw envR_ok (none) ?_); try simp -implicitDefEqProofs (maxSteps := 1000000) only [go_sem, ↓reduceIte, reduceCtorEq, Nat.reduceLT, Nat.reduceEqDiff, Nat.reduceBEq, Nat.reduceAdd, Nat.reduceMul, Nat.reduceSub, Nat.reduceLeDiff, Int.reduceNeg, Int.reduceLT, Int.reduceLE, Int.reduceEq, Int.reduceAdd, Int.reduceToNat, hp])
    refine AW.loop (fun st => ∃ j, j ≤ r.length ∧ (∀ i, i < j → r.getD i 0 ≠ 0) ∧ st.σ 0 = .ptr (some (p, 0)) ∧ st.σ 3 = .int .i64 ((q + j : Nat) : Int) ∧ st.H = H)
      (fun st => match st.σ 3 with | .int _ i => b.length - i.toNat | _ => 0) ⟨0, by omega, by omega, rfl, rfl, rfl⟩ ?_
    rintro ⟨σ, H2⟩ ⟨j, hj, hz, s0, s3, rfl⟩
    simp only at s0 s3
    have fin : ∀ (m : Nat), j = nz r → m = q + j → m = q + nz r := fun m h1 h2 => by omega
    by_cases c : j = r.length
    · have c1 : ¬ ((q + j : Nat) : Int) < (b.length : Int) := by omega
      have c2 : ((q + j : Nat) : Int) = (b.length : Int) := by omega
      rw [if_pos (nz_end c hz)] at h
      ((try first | refine walk_aw env_ok (none) ?_ | refine walk_aw envR_ok (none) ?_); try simp -implicitDefEqProofs (maxSteps := 1000000) only [go_sem, ↓reduceIte, reduceCtorEq, Nat.reduceLT, Nat.reduceEqDiff, Nat.reduceBEq, Nat.reduceAdd, Nat.reduceMul, Nat.reduceSub, Nat.reduceLeDiff, Int.reduceNeg, Int.reduceLT, Int.reduceLE, Int.reduceEq, Int.reduceAdd, Int.reduceToNat, s0, s3, hp, c1])
      ((try first | refine walk_aw env_ok (none) ?_ | refine walk_aw envR_ok (none) ?_); try simp -implicitDefEqProofs (maxSteps := 1000000) only [go_sem, ↓reduceIte, reduceCtorEq, Nat.reduceLT, Nat.reduceEqDiff, Nat.reduceBEq, Nat.reduceAdd, Nat.reduceMul, Nat.reduceSub, Nat.reduceLeDiff, Int.reduceNeg, Int.reduceLT, Int.reduceLE, Int.reduceEq, Int.reduceAdd, Int.reduceToNat, s0, s3, hp, c1])
      ((try first | refine walk_aw env_ok (none) ?_ | refine walk_aw envR_ok (none) ?_); try simp -implicitDefEqProofs (maxSteps := 1000000) only [go_sem, ↓reduceIte, reduceCtorEq, Nat.reduceLT, Nat.reduceEqDiff, Nat.reduceBEq, Nat.reduceAdd, Nat.reduceMul, Nat.reduceSub, Nat.reduceLeDiff, Int.reduceNeg, Int.reduceLT, Int.reduceLE, Int.reduceEq, Int.reduceAdd, Int.reduceToNat, s0, s3, hp, c2])
      exact .inl h
    · have c1 : ((q + j : Nat) : Int) < (b.length : Int) := by omega
      have c2 : (0 : Int) ≤ ((q + j : Nat) : Int) := by omega
      by_cases c3 : r.getD j 0 = 0
      · have hn : nz r = j := nz_at (by omega) hz c3
        have c4 : ((b.getD (q + j) 0).toNat : Int) = 0 := by rw [← hat, c3]; rfl
        rw [hn, if_neg (by omega)] at h
        have c5 : ¬ ((q + j : Nat) : Int) = (b.length : Int) := by omega
        have c6 : IntKind.i64.wrap (((q + j : Nat) : Int) - (q : Int)) = (j : Int) := by rw [IntWalk.i64_in _ (by omega)]; omega
        by_cases c7 : (j : Int) > 200
        · rw [if_pos (by omega)] at h
          ((try first | refine walk_aw env_ok (none) ?_ | refine walk_aw envR_ok (none) ?_); try simp -implicitDefEqProofs (maxSteps := 1000000) only [go_sem, ↓reduceIte, reduceCtorEq, Nat.reduceLT, Nat.reduceEqDiff, Nat.reduceBEq, Nat.reduceAdd, Nat.reduceMul, Nat.reduceSub, Nat.reduceLeDiff, Int.reduceNeg, Int.reduceLT, Int.reduceLE, Int.reduceEq, Int.reduceAdd, Int.reduceToNat, s0, s3, hp, c1, c2, bA_getD (show q + j < b.length by omega), c4, c5, c6, c7])
          exact .inl h
        · rw [if_neg (by omega)] at h
          ((try first | refine walk_aw env_ok (none) ?_ | refine walk_aw envR_ok (none) ?_); try simp -implicitDefEqProofs (maxSteps := 1000000) only [go_sem, ↓reduceIte, reduceCtorEq, Nat.reduceLT, Nat.reduceEqDiff, Nat.reduceBEq, Nat.reduceAdd, Nat.reduceMul, Nat.reduceSub, Nat.reduceLeDiff, Int.reduceNeg, Int.reduceLT, Int.reduceLE, Int.reduceEq, Int.reduceAdd, Int.reduceToNat, s0, s3, hp, c1, c2, bA_getD (show q + j < b.length by omega), c4, c5, c6, c7])
          refine AW.chain env_ok [0, 1, 3, 7, 0, 16, 48, 112, 0, 511, 1023, 2047] [0, 1, 2, 3, 4, 5, 6, 7, 8, 9, 10] [(11, [], [])] mixed (by decide) ?_
          have d1 : (0 : Int) ≤ (q : Int) := by omega
          have d2 : q ≤ q + j := by omega
          have d3 : q + j ≤ b.length := by omega
          have d4 : (b.take (q + j)).drop q = r.take j := by rw [List.drop_take, hr, Nat.add_sub_cancel_left]
          simp -implicitDefEqProofs (maxSteps := 1000000) (disch := omega) only [go_sem, ↓reduceIte, reduceCtorEq, Nat.reduceLT, Nat.reduceEqDiff, Nat.reduceBEq, Nat.reduceAdd, Nat.reduceMul, Nat.reduceSub, Nat.reduceLeDiff, Int.reduceNeg, Int.reduceLT, Int.reduceLE, Int.reduceEq, Int.reduceAdd, Int.reduceToNat, IntWalk.i64_in, IntWalk.u64_in, IntWalk.u8_in, if_pos, if_neg, Bool.and_eq_true, decide_eq_true_eq, s0, s3, hp, d1, c2, d2, d3, d4]
          ((try first | refine walk_aw env_ok (none) ?_ | refine walk_aw envR_ok (none) ?_); try simp -implicitDefEqProofs (maxSteps := 1000000) (disch := omega) only [go_sem, ↓reduceIte, reduceCtorEq, Nat.reduceLT, Nat.reduceEqDiff, Nat.reduceBEq, Nat.reduceAdd, Nat.reduceMul, Nat.reduceSub, Nat.reduceLeDiff, Int.reduceNeg, Int.reduceLT, Int.reduceLE, Int.reduceEq, Int.reduceAdd, Int.reduceToNat, IntWalk.i64_in, IntWalk.u64_in, IntWalk.u8_in, if_pos, if_neg, Bool.and_eq_true, decide_eq_true_eq, s0, s3, hp])
          refine .inl ?_
          rw [show ({ b := b, pos := q, err := 0 } : CS).ref.take 1 ++ [V.int IntKind.i64 (((q + j : Nat) : Int) + 1)] ++ ({ b := b, pos := q, err := 0 } : CS).ref.drop 2 = ({ b := b, pos := q + j + 1, err := 0 } : CS).ref from rfl]
          exact h
      · have c4 : ¬ ((b.getD (q + j) 0).toNat : Int) = 0 := by rw [← hat]; intro hc; exact c3 (UInt8.toNat_inj.1 (by simpa using hc))
        ((try first | refine walk_aw env_ok (none) ?_ | refine walk_aw envR_ok (none) ?_); try simp -implicitDefEqProofs (maxSteps := 1000000) (disch := omega) only [go_sem, ↓reduceIte, reduceCtorEq, Nat.reduceLT, Nat.reduceEqDiff, Nat.reduceBEq, Nat.reduceAdd, Nat.reduceMul, Nat.reduceSub, Nat.reduceLeDiff, Int.reduceNeg, Int.reduceLT, Int.reduceLE, Int.reduceEq, Int.reduceAdd, Int.reduceToNat, IntWalk.i64_in, IntWalk.u64_in, IntWalk.u8_in, if_pos, if_neg, Bool.and_eq_true, decide_eq_true_eq, s0, s3, hp, c1, c2, bA_getD (show q + j < b.length by omega), c4])
        refine ⟨⟨j + 1, by omega, ?_, rfl⟩, by omega⟩
        intro i hi
        by_cases hij : i = j
        · rw [hij]; exact c3
        · exact hz i (by omega)
  · rw [CS.text_err e0, set_same hp] at h
    ((try first | refine walk_aw env_ok (none) ?_ | refine walk_aw envR_ok (none) ?_); try simp -implicitDefEqProofs (maxSteps := 1000000) only [go_sem, ↓reduceIte, reduceCtorEq, Nat.reduceLT, Nat.reduceEqDiff, Nat.reduceBEq, Nat.reduceAdd, Nat.reduceMul, Nat.reduceSub, Nat.reduceLeDiff, Int.reduceNeg, Int.reduceLT, Int.reduceLE, Int.reduceEq, Int.reduceAdd, Int.reduceToNat, hp, e0])
    exact .inl h

/-- How many bytes the number of a form has. -/
def sizeR : List Int := [0, 8, 0, 2, 4, 2, 4, 8, 0, 0, 1, 1, 1, 0, -2, 0, -2, 1, 2, 4, 8, 0, 0, -2, 0, 0, 0, 0, 0, 0, 0, -2, 8, 0, 0, 0, 0, 1, 2, 3, 4, 1, 2, 3, 4]
def szr (n : Int) (w : Bool) : Int :=
  if 0 ≤ n ∧ n < 45 then (if sizeR.getD n.toNat 0 = -2 then (if w then 8 else 4) else sizeR.getD n.toNat 0) else 0
theorem szr_out : ∀ k : Nat, k < 45 → sizeR.getD k 0 = 0 ∨ k ∈ [10, 11, 12, 17, 37, 41, 3, 5, 18, 38, 42, 39, 43, 4, 6, 19, 40, 44, 1, 7, 20, 32, 14, 16, 23, 31] := by decide
theorem szr_nat {k : Nat} (h : k < 45) (w : Bool) : szr (k : Int) w = if sizeR.getD k 0 = -2 then (if w then 8 else 4) else sizeR.getD k 0 := by rw [szr, if_pos (by omega), Int.toNat_natCast]

theorem rSize_spec {n : Int} {w : Bool} (h : Q (.int .i64 (szr n w)) H) : AC Tryd.prog 51 [.int .i64 n, .bool w] H Q := by
  refine AC.enter (E := env Tryd.prog 40 (fun _ => .copy) (fun _ => false)) env_ok Tryd.func51 rfl rfl rfl (by simp only [List.length_cons, List.length_nil]; exact of_decide_eq_true rfl) ?_
  ((try first | refine walk_aw env_ok (none) ?_ | refine walk_aw envR_ok (none) ?_); try simp -implicitDefEqProofs (maxSteps := 1000000) only [go_sem, ↓reduceIte, reduceCtorEq, Nat.reduceLT, Nat.reduceEqDiff, Nat.reduceBEq, Nat.reduceAdd, Nat.reduceMul, Nat.reduceSub, Nat.reduceLeDiff, Int.reduceNeg, Int.reduceLT, Int.reduceLE, Int.reduceEq, Int.reduceAdd, Int.reduceToNat])
  repeat
    (refine condW.br (fun e => ?_) (fun e => ?_) <;> simp only [decide_eq_true_eq, decide_eq_false_iff_not] at e
     · subst e; ((try first | refine walk_aw env_ok (none) ?_ | refine walk_aw envR_ok (none) ?_); try simp -implicitDefEqProofs (maxSteps := 1000000) only [go_sem, ↓reduceIte, reduceCtorEq, Nat.reduceLT, Nat.reduceEqDiff, Nat.reduceBEq, Nat.reduceAdd, Nat.reduceMul, Nat.reduceSub, Nat.reduceLeDiff, Int.reduceNeg, Int.reduceLT, Int.reduceLE, Int.reduceEq, Int.reduceAdd, Int.reduceToNat]); first | exact .inl h | (refine rOff_spec ?_; ((try first | refine walk_aw env_ok (none) ?_ | refine walk_aw envR_ok (none) ?_); try simp -implicitDefEqProofs (maxSteps := 1000000) only [go_sem, ↓reduceIte, reduceCtorEq, Nat.reduceLT, Nat.reduceEqDiff, Nat.reduceBEq, Nat.reduceAdd, Nat.reduceMul, Nat.reduceSub, Nat.reduceLeDiff, Int.reduceNeg, Int.reduceLT, Int.reduceLE, Int.reduceEq, Int.reduceAdd, Int.reduceToNat]); exact .inl h)
     ((try first | refine walk_aw env_ok (none) ?_ | refine walk_aw envR_ok (none) ?_); try simp -implicitDefEqProofs (maxSteps := 1000000) only [go_sem, ↓reduceIte, reduceCtorEq, Nat.reduceLT, Nat.reduceEqDiff, Nat.reduceBEq, Nat.reduceAdd, Nat.reduceMul, Nat.reduceSub, Nat.reduceLeDiff, Int.reduceNeg, Int.reduceLT, Int.reduceLE, Int.reduceEq, Int.reduceAdd, Int.reduceToNat]))
  have : szr n w = 0 := by
    by_cases c : 0 ≤ n ∧ n < 45
    · obtain ⟨k, rfl⟩ : ∃ k : Nat, n = (k : Int) := ⟨n.toNat, by omega⟩
      rw [szr_nat (by omega)]
      rcases szr_out k (by omega) with h0 | h0
      · rw [h0]; rfl
      · simp only [List.mem_cons, List.not_mem_nil, or_false] at h0; omega
    · rw [szr, if_neg c]
  rw [this] at h
  exact .inl h

theorem rnumber_spec {z : Int} {w : Bool} {s : CS} (hs : s.Ok) (hp : H[p]? = some (.cells s.ref))
    (h : Q (.int .u64 ((if szr z w = 0 then s.uleb else (le (s.take (min (max (szr z w) 0) 8).toNat).1, (s.take (min (max (szr z w) 0) 8).toNat).2)).1 : Nat))
      (H.set p (.cells (if szr z w = 0 then s.uleb else (le (s.take (min (max (szr z w) 0) 8).toNat).1, (s.take (min (max (szr z w) 0) 8).toNat).2)).2.ref))) :
    AC Tryd.prog 30 [.ptr (some (p, 0)), .int .i64 z, .bool w] H Q := by
  refine AC.enter (E := env Tryd.prog 18 (fun _ => .copy) (fun _ => false)) env_ok Tryd.func30 rfl rfl rfl (by simp only [List.length_cons, List.length_nil]; exact of_decide_eq_true rfl) ?_
  ((try first | refine walk_aw env_ok (none) ?_ | refine walk_aw envR_ok (none) ?_); try simp -implicitDefEqProofs (maxSteps := 1000000) only [go_sem, ↓reduceIte, reduceCtorEq, Nat.reduceLT, Nat.reduceEqDiff, Nat.reduceBEq, Nat.reduceAdd, Nat.reduceMul, Nat.reduceSub, Nat.reduceLeDiff, Int.reduceNeg, Int.reduceLT, Int.reduceLE, Int.reduceEq, Int.reduceAdd, Int.reduceToNat])
  refine rSize_spec ?_
  by_cases e : szr z w = 0
  · rw [if_pos e] at h
    ((try first | refine walk_aw env_ok (none) ?_ | refine walk_aw envR_ok (none) ?_); try simp -implicitDefEqProofs (maxSteps := 1000000) only [go_sem, ↓reduceIte, reduceCtorEq, Nat.reduceLT, Nat.reduceEqDiff, Nat.reduceBEq, Nat.reduceAdd, Nat.reduceMul, Nat.reduceSub, Nat.reduceLeDiff, Int.reduceNeg, Int.reduceLT, Int.reduceLE, Int.reduceEq, Int.reduceAdd, Int.reduceToNat, e])
    refine rU_spec hs hp ?_
    ((try first | refine walk_aw env_ok (none) ?_ | refine walk_aw envR_ok (none) ?_); try simp -implicitDefEqProofs (maxSteps := 1000000) only [go_sem, ↓reduceIte, reduceCtorEq, Nat.reduceLT, Nat.reduceEqDiff, Nat.reduceBEq, Nat.reduceAdd, Nat.reduceMul, Nat.reduceSub, Nat.reduceLeDiff, Int.reduceNeg, Int.reduceLT, Int.reduceLE, Int.reduceEq, Int.reduceAdd, Int.reduceToNat])
    exact .inl h
  · rw [if_neg e] at h
    ((try first | refine walk_aw env_ok (none) ?_ | refine walk_aw envR_ok (none) ?_); try simp -implicitDefEqProofs (maxSteps := 1000000) only [go_sem, ↓reduceIte, reduceCtorEq, Nat.reduceLT, Nat.reduceEqDiff, Nat.reduceBEq, Nat.reduceAdd, Nat.reduceMul, Nat.reduceSub, Nat.reduceLeDiff, Int.reduceNeg, Int.reduceLT, Int.reduceLE, Int.reduceEq, Int.reduceAdd, Int.reduceToNat, e])
    refine rUint_spec hs hp ?_
    ((try first | refine walk_aw env_ok (none) ?_ | refine walk_aw envR_ok (none) ?_); try simp -implicitDefEqProofs (maxSteps := 1000000) only [go_sem, ↓reduceIte, reduceCtorEq, Nat.reduceLT, Nat.reduceEqDiff, Nat.reduceBEq, Nat.reduceAdd, Nat.reduceMul, Nat.reduceSub, Nat.reduceLeDiff, Int.reduceNeg, Int.reduceLT, Int.reduceLE, Int.reduceEq, Int.reduceAdd, Int.reduceToNat])
    exact .inl h
end
end Go.Ab
end

section
/- Numbers and texts that are put. -/
namespace Go.Ab
open V Go.Proofs
set_option maxHeartbeats 4000000
set_option maxRecDepth 10000
set_option linter.unusedSimpArgs false
set_option linter.unusedVariables false

section
variable {H : Heap} {Q : A → Heap → Prop}
theorem cPut_spec {b : List UInt8} {k n : Nat} {z : Int} (hb : b.length < 140737488355000) (hk : k ≤ b.length) (hn : n < 18446744073709551616)
    (h : Q (.sl (bA (b ++ leB (min (max z 0) 8).toNat n)) (some k) ()) H) : AC Tryd.prog 57 [.sl (bA b) (some k) (), .int .u64 n, .int .i64 z] H Q := by
  refine AC.enter (E := env Tryd.prog 24 (fun t => if t == 13 || t == 23 then .take else .copy) (fun _ => false)) env_ok Tryd.func57 rfl rfl rfl (by simp only [List.length_cons, List.length_nil]; exact of_decide_eq_true rfl) ?_
  ((try first | refine walk_aw env_ok (none) ?_ | refine walk_aw envR_ok (none) ?_); try simp -implicitDefEqProofs (maxSteps := 1000000) only [go_sem, ↓reduceIte, reduceCtorEq, Nat.reduceLT, Nat.reduceEqDiff, Nat.reduceBEq, Nat.reduceAdd, Nat.reduceMul, Nat.reduceSub, Nat.reduceLeDiff, Int.reduceNeg, Int.reduceLT, Int.reduceLE, Int.reduceEq, Int.reduceAdd, Int.reduceToNat])
  refine width_spec ?_
  obtain ⟨w, hw⟩ : ∃ w : Nat, min (max z 0) 8 = (w : Int) := ⟨(min (max z 0) 8).toNat, by omega⟩
  have hw8 : w ≤ 8 := by omega
  rw [hw] at h ⊢
  rw [Int.toNat_natCast] at h
  ((try first | refine walk_aw env_ok (none) ?_ | refine walk_aw envR_ok (none) ?_); try simp -implicitDefEqProofs (maxSteps := 1000000) only [go_sem, ↓reduceIte, reduceCtorEq, Nat.reduceLT, Nat.reduceEqDiff, Nat.reduceBEq, Nat.reduceAdd, Nat.reduceMul, Nat.reduceSub, Nat.reduceLeDiff, Int.reduceNeg, Int.reduceLT, Int.reduceLE, Int.reduceEq, Int.reduceAdd, Int.reduceToNat])
  refine AW.loop (fun st => ∃ i : Nat, i ≤ w ∧ st.σ 9 = .int .i64 w ∧ st.σ 10 = .int .i64 i ∧ st.σ 1 = .int .u64 n ∧ st.σ 0 = .sl (bA (b ++ leB i n)) (some k) () ∧ st.H = H)
    (fun st => match st.σ 10 with | .int _ i => w - i.toNat | _ => 0) ⟨0, by omega, rfl, rfl, rfl, by rw [show b ++ leB 0 n = b by simp [leB]]; rfl, rfl⟩ ?_
  rintro ⟨σ, H2⟩ ⟨i, hi, s9, s10, s1, s0, rfl⟩
  simp only at s9 s10 s1 s0
  by_cases c : i = w
  · subst c
    have c1 : ¬ (i : Int) < (i : Int) := by omega
    ((try first | refine walk_aw env_ok (none) ?_ | refine walk_aw envR_ok (none) ?_); try simp -implicitDefEqProofs (maxSteps := 1000000) only [go_sem, ↓reduceIte, reduceCtorEq, Nat.reduceLT, Nat.reduceEqDiff, Nat.reduceBEq, Nat.reduceAdd, Nat.reduceMul, Nat.reduceSub, Nat.reduceLeDiff, Int.reduceNeg, Int.reduceLT, Int.reduceLE, Int.reduceEq, Int.reduceAdd, Int.reduceToNat, s9, s10, s1, s0, c1])
    exact .inl h
  · have c1 : (i : Int) < (w : Int) := by omega
    have hl : (b ++ leB i n).length = b.length + i := by simp [leB_length]
    have e1 : IntKind.i64.wrap (8 * (i : Int)) = 8 * (i : Int) := IntWalk.i64_in _ (by omega)
    have e2 : IntKind.u64.wrap (8 * (i : Int)) = 8 * (i : Int) := IntWalk.u64_in _ (by omega)
    have e3 : IntKind.i64.wrap ((i : Int) + 1) = ((i + 1 : Nat) : Int) := IntWalk.i64_in _ (by omega)
    have e4 : ¬ 8 * (i : Int) < 0 := by omega
    have hsn := bA_snoc (b ++ leB i n) (n / 256 ^ i % 256) (Nat.mod_lt _ (by omega))
    have hcap : (b ++ leB i n).length + 1 ≤ 140737488355328 := by omega
    have hcap' : (b ++ leB i n).length ≤ 140737488355327 := by omega
    have hkk : k ≤ (b ++ leB i n).length := by omega
    ((try first | refine walk_aw env_ok (none) ?_ | refine walk_aw envR_ok (none) ?_); try simp -implicitDefEqProofs (maxSteps := 1000000) only [go_sem, ↓reduceIte, reduceCtorEq, Nat.reduceLT, Nat.reduceEqDiff, Nat.reduceBEq, Nat.reduceAdd, Nat.reduceMul, Nat.reduceSub, Nat.reduceLeDiff, Int.reduceNeg, Int.reduceLT, Int.reduceLE, Int.reduceEq, Int.reduceAdd, Int.reduceToNat, s9, s10, s1, s0, c1, e1, e2, e3, e4, shr_byte n i (by omega), u8_nat, uni_i1, hsn, hcap, hcap', hkk])
    refine ⟨⟨i + 1, by omega, rfl, by rw [leB_snoc, List.append_assoc]⟩, by omega⟩

theorem rcPut_spec {n : Nat} {z : Int} (hn : n < 18446744073709551616) (h : Q (.sl (bA (leB (min (max z 0) 8).toNat n)) (some 0) ()) H) : AC Tryd.prog 60 [.int .u64 n, .int .i64 z] H Q := by
  obtain ⟨w, hw⟩ : ∃ w : Nat, min (max z 0) 8 = (w : Int) := ⟨(min (max z 0) 8).toNat, by omega⟩
  have hw8 : w ≤ 8 := by omega
  rw [hw, Int.toNat_natCast] at h
  refine AC.enter (E := env Tryd.prog 22 (fun t => if t == 13 || t == 21 then .take else .copy) (fun _ => false)) env_ok Tryd.func60 rfl rfl rfl (by simp only [List.length_cons, List.length_nil]; exact of_decide_eq_true rfl) ?_
  ((try first | refine walk_aw env_ok (none) ?_ | refine walk_aw envR_ok (none) ?_); try simp -implicitDefEqProofs (maxSteps := 1000000) only [go_sem, ↓reduceIte, reduceCtorEq, Nat.reduceLT, Nat.reduceEqDiff, Nat.reduceBEq, Nat.reduceAdd, Nat.reduceMul, Nat.reduceSub, Nat.reduceLeDiff, Int.reduceNeg, Int.reduceLT, Int.reduceLE, Int.reduceEq, Int.reduceAdd, Int.reduceToNat])
  refine AW.loop (fun st => ∃ i : Nat, i ≤ w ∧ st.σ 1 = .int .i64 z ∧ st.σ 6 = .int .i64 i ∧ st.σ 0 = .int .u64 ((n / 256 ^ i : Nat) : Int) ∧ st.σ 5 = .sl (bA (leB i n)) (some 0) () ∧ st.H = H)
    (fun st => match st.σ 6 with | .int _ i => w - i.toNat | _ => 0) ⟨0, by omega, rfl, rfl, by simp; rfl, rfl, rfl⟩ ?_
  rintro ⟨σ, H2⟩ ⟨i, hi, s1, s6, s0, s5, rfl⟩
  simp only at s1 s6 s0 s5
  ((try first | refine walk_aw env_ok (none) ?_ | refine walk_aw envR_ok (none) ?_); try simp -implicitDefEqProofs (maxSteps := 1000000) only [go_sem, ↓reduceIte, reduceCtorEq, Nat.reduceLT, Nat.reduceEqDiff, Nat.reduceBEq, Nat.reduceAdd, Nat.reduceMul, Nat.reduceSub, Nat.reduceLeDiff, Int.reduceNeg, Int.reduceLT, Int.reduceLE, Int.reduceEq, Int.reduceAdd, Int.reduceToNat, s1, s6])
  refine rsize_spec ?_
  rw [hw]
  by_cases c : i = w
  · subst c
    have c1 : ¬ (i : Int) < (i : Int) := by omega
    ((try first | refine walk_aw env_ok (none) ?_ | refine walk_aw envR_ok (none) ?_); try simp -implicitDefEqProofs (maxSteps := 1000000) only [go_sem, ↓reduceIte, reduceCtorEq, Nat.reduceLT, Nat.reduceEqDiff, Nat.reduceBEq, Nat.reduceAdd, Nat.reduceMul, Nat.reduceSub, Nat.reduceLeDiff, Int.reduceNeg, Int.reduceLT, Int.reduceLE, Int.reduceEq, Int.reduceAdd, Int.reduceToNat, s1, s6, s5, c1])
    exact .inl h
  · have c1 : (i : Int) < (w : Int) := by omega
    have hl : (leB i n).length = i := by simp [leB_length]
    have e1 : ((n / 256 ^ i : Nat) : Int).tmod 256 = ((n / 256 ^ i % 256 : Nat) : Int) := by
      generalize n / 256 ^ i = q; rw [Int.tmod_eq_emod_of_nonneg (by omega)]; omega
    have e2 : IntKind.u64.wrap (((n / 256 ^ i : Nat) : Int).tdiv 256) = ((n / 256 ^ (i + 1) : Nat) : Int) := by
      have : n / 256 ^ i ≤ n := Nat.div_le_self _ _
      rw [Nat.pow_succ, ← Nat.div_div_eq_div_mul]
      generalize n / 256 ^ i = q at this ⊢
      rw [Int.tdiv_eq_ediv_of_nonneg (by omega), IntWalk.u64_in _ (by omega)]; omega
    have e3 : IntKind.i64.wrap ((i : Int) + 1) = ((i + 1 : Nat) : Int) := IntWalk.i64_in _ (by omega)
    have hsn := bA_snoc (leB i n) (n / 256 ^ i % 256) (Nat.mod_lt _ (by omega))
    have hm : n / 256 ^ i % 256 % 256 = n / 256 ^ i % 256 := Nat.mod_mod _ _
    have hcap' : (leB i n).length ≤ 140737488355327 := by omega
    ((try first | refine walk_aw env_ok (none) ?_ | refine walk_aw envR_ok (none) ?_); try simp -implicitDefEqProofs (maxSteps := 1000000) only [go_sem, ↓reduceIte, reduceCtorEq, Nat.reduceLT, Nat.reduceEqDiff, Nat.reduceBEq, Nat.reduceAdd, Nat.reduceMul, Nat.reduceSub, Nat.reduceLeDiff, Int.reduceNeg, Int.reduceLT, Int.reduceLE, Int.reduceEq, Int.reduceAdd, Int.reduceToNat, s1, s6, s0, s5, c1, e1, e2, e3, u8_nat, hm, uni_i1, hsn, hcap', Nat.zero_le])
    refine ⟨⟨i + 1, by omega, rfl, rfl, by rw [leB_snoc]⟩, by omega⟩

theorem putU_le {n : Nat} (hn : n < 18446744073709551616) : (putU n).length ≤ 10 := by
  have h1 := parts_len (k := 9) (n := n) (by omega)
  have h2 := List.length_pos_iff.2 (parts7_ne n)
  rw [putU]; simp [enc]; omega
theorem putS_le {n : Int} (hn : -9223372036854775808 ≤ n ∧ n < 9223372036854775808) : (putS n).length ≤ 10 := by
  have h1 := partsS_len n hn
  have h2 := List.length_pos_iff.2 (partsS_ne n)
  rw [putS]; simp [enc]; omega

theorem rPutU_spec {n : Nat} (hn : n < 18446744073709551616) (h : Q (.sl (bA (putU n)) (some 0) ()) H) : AC Tryd.prog 59 [.int .u64 n] H Q := by
  have hlen := putU_le hn
  refine AC.enter (E := env Tryd.prog 20 (fun t => if t == 6 || t == 15 then .take else .copy) (fun _ => false)) env_ok Tryd.func59 rfl rfl rfl (by simp only [List.length_cons, List.length_nil]; exact of_decide_eq_true rfl) ?_
  ((try first | refine walk_aw env_ok (none) ?_ | refine walk_aw envR_ok (none) ?_); try simp -implicitDefEqProofs (maxSteps := 1000000) only [go_sem, ↓reduceIte, reduceCtorEq, Nat.reduceLT, Nat.reduceEqDiff, Nat.reduceBEq, Nat.reduceAdd, Nat.reduceMul, Nat.reduceSub, Nat.reduceLeDiff, Int.reduceNeg, Int.reduceLT, Int.reduceLE, Int.reduceEq, Int.reduceAdd, Int.reduceToNat])
  refine AW.loop (fun st => ∃ (m : Nat) (acc : List UInt8), m < 18446744073709551616 ∧ acc ++ putU m = putU n ∧ st.σ 0 = .int .u64 m ∧ st.σ 3 = .sl (bA acc) (some 0) () ∧ st.H = H)
    (fun st => match st.σ 0 with | .int _ i => i.toNat | _ => 0) ⟨n, [], hn, rfl, rfl, rfl, rfl⟩ ?_
  rintro ⟨σ, H2⟩ ⟨m, acc, hm, hacc, s0, s3, rfl⟩
  simp only at s0 s3
  have hal : acc.length ≤ 10 := by have := congrArg List.length hacc; rw [List.length_append] at this; omega
  have hcap : acc.length ≤ 140737488355327 := by omega
  rw [putU_def m] at hacc
  by_cases c : m < 128
  · have c1 : ¬ (m : Int) ≥ 128 := by omega
    rw [if_pos c] at hacc
    have hsn := bA_snoc acc m (by omega)
    have hm : m % 256 = m := Nat.mod_eq_of_lt (by omega)
    ((try first | refine walk_aw env_ok (none) ?_ | refine walk_aw envR_ok (none) ?_); try simp -implicitDefEqProofs (maxSteps := 1000000) only [go_sem, ↓reduceIte, reduceCtorEq, Nat.reduceLT, Nat.reduceEqDiff, Nat.reduceBEq, Nat.reduceAdd, Nat.reduceMul, Nat.reduceSub, Nat.reduceLeDiff, Int.reduceNeg, Int.reduceLT, Int.reduceLE, Int.reduceEq, Int.reduceAdd, Int.reduceToNat, s0, s3, c1, u8_nat, hm, uni_i1, hsn, hcap, Nat.zero_le])
    rw [hacc]
    exact .inl h
  · have c1 : (m : Int) ≥ 128 := by omega
    rw [if_neg c] at hacc
    have e1 : (m : Int).tmod 128 = ((m % 128 : Nat) : Int) := by rw [Int.tmod_eq_emod_of_nonneg (by omega)]; omega
    have e2 : IntKind.u64.wrap (((m % 128 : Nat) : Int) + 128) = ((m % 128 + 128 : Nat) : Int) := by rw [IntWalk.u64_in _ (by omega)]; omega
    have e3 : IntKind.u64.wrap ((m : Int).tdiv 128) = ((m / 128 : Nat) : Int) := by rw [Int.tdiv_eq_ediv_of_nonneg (by omega), IntWalk.u64_in _ (by omega)]; omega
    have hm2 : (m % 128 + 128) % 256 = m % 128 + 128 := Nat.mod_eq_of_lt (by omega)
    have hsn := bA_snoc acc (m % 128 + 128) (by omega)
    ((try first | refine walk_aw env_ok (none) ?_ | refine walk_aw envR_ok (none) ?_); try simp -implicitDefEqProofs (maxSteps := 1000000) only [go_sem, ↓reduceIte, reduceCtorEq, Nat.reduceLT, Nat.reduceEqDiff, Nat.reduceBEq, Nat.reduceAdd, Nat.reduceMul, Nat.reduceSub, Nat.reduceLeDiff, Int.reduceNeg, Int.reduceLT, Int.reduceLE, Int.reduceEq, Int.reduceAdd, Int.reduceToNat, s0, s3, c1, e1, e2, e3, u8_nat, hm2, uni_i1, hsn, hcap, Nat.zero_le])
    exact ⟨⟨m / 128, acc ++ [UInt8.ofNat (m % 128 + 128)], by omega, by rw [← hacc]; simp, rfl, rfl⟩, by omega⟩

theorem rPutS_spec {n : Int} (hn : -9223372036854775808 ≤ n ∧ n < 9223372036854775808) (h : Q (.sl (bA (putS n)) (some 0) ()) H) : AC Tryd.prog 35 [.int .i64 n] H Q := by
  have hlen := putS_le hn
  refine AC.enter (E := env Tryd.prog 36 (fun t => if t == 17 || t == 31 then .take else .copy) (fun _ => false)) env_ok Tryd.func35 rfl rfl rfl (by simp only [List.length_cons, List.length_nil]; exact of_decide_eq_true rfl) ?_
  ((try first | refine walk_aw env_ok (none) ?_ | refine walk_aw envR_ok (none) ?_); try simp -implicitDefEqProofs (maxSteps := 1000000) only [go_sem, ↓reduceIte, reduceCtorEq, Nat.reduceLT, Nat.reduceEqDiff, Nat.reduceBEq, Nat.reduceAdd, Nat.reduceMul, Nat.reduceSub, Nat.reduceLeDiff, Int.reduceNeg, Int.reduceLT, Int.reduceLE, Int.reduceEq, Int.reduceAdd, Int.reduceToNat])
  refine AW.loop (fun st => ∃ (m : Int) (acc : List UInt8), (-9223372036854775808 ≤ m ∧ m < 9223372036854775808) ∧ acc ++ putS m = putS n ∧ st.σ 0 = .int .i64 m ∧ st.σ 3 = .sl (bA acc) (some 0) () ∧ st.H = H)
    (fun st => match st.σ 0 with | .int _ i => i.natAbs | _ => 0) ⟨n, [], hn, rfl, rfl, rfl, rfl⟩ ?_
  rintro ⟨σ, H2⟩ ⟨m, acc, hm, hacc, s0, s3, rfl⟩
  simp only at s0 s3
  have hal : acc.length ≤ 10 := by have := congrArg List.length hacc; rw [List.length_append] at this; omega
  have hcap : acc.length ≤ 140737488355327 := by omega
  rw [putS_def m] at hacc
  obtain ⟨x, hx⟩ : ∃ x : Nat, m % 128 = (x : Int) := ⟨(m % 128).toNat, by omega⟩
  have hx1 : x < 128 := by omega
  rw [hx, Int.toNat_natCast] at hacc
  by_cases c : -64 ≤ m ∧ m < 64
  · have c1 : ¬ m < -64 := by omega
    have c2 : ¬ m > 63 := by omega
    rw [if_pos c] at hacc
    have hsn := bA_snoc acc x (by omega)
    have hm1 : x % 256 = x := Nat.mod_eq_of_lt (by omega)
    by_cases c3 : m < 0
    · have e1 : IntKind.i64.wrap (m + 128) = (x : Int) := by rw [IntWalk.i64_in _ (by omega)]; omega
      ((try first | refine walk_aw env_ok (none) ?_ | refine walk_aw envR_ok (none) ?_); try simp -implicitDefEqProofs (maxSteps := 1000000) only [go_sem, ↓reduceIte, reduceCtorEq, Nat.reduceLT, Nat.reduceEqDiff, Nat.reduceBEq, Nat.reduceAdd, Nat.reduceMul, Nat.reduceSub, Nat.reduceLeDiff, Int.reduceNeg, Int.reduceLT, Int.reduceLE, Int.reduceEq, Int.reduceAdd, Int.reduceToNat, s0, s3, c1, c2, c3, e1, u8_nat, hm1, uni_i1, hsn, hcap, Nat.zero_le])
      rw [hacc]
      exact .inl h
    · have e1 : m = (x : Int) := by omega
      subst e1
      ((try first | refine walk_aw env_ok (none) ?_ | refine walk_aw envR_ok (none) ?_); try simp -implicitDefEqProofs (maxSteps := 1000000) only [go_sem, ↓reduceIte, reduceCtorEq, Nat.reduceLT, Nat.reduceEqDiff, Nat.reduceBEq, Nat.reduceAdd, Nat.reduceMul, Nat.reduceSub, Nat.reduceLeDiff, Int.reduceNeg, Int.reduceLT, Int.reduceLE, Int.reduceEq, Int.reduceAdd, Int.reduceToNat, s0, s3, c1, c2, c3, u8_nat, hm1, uni_i1, hsn, hcap, Nat.zero_le])
      rw [hacc]
      exact .inl h
  · rw [if_neg c] at hacc
    have e2 : IntKind.i64.wrap ((x : Int) + 128) = ((x + 128 : Nat) : Int) := by rw [IntWalk.i64_in _ (by omega)]; omega
    have e3 : IntKind.i64.wrap (m - (x : Int)) = m - (x : Int) := IntWalk.i64_in _ (by omega)
    have e4 : IntKind.i64.wrap ((m - (x : Int)).tdiv 128) = m / 128 := by
      have : (m - (x : Int)).tdiv 128 = m / 128 := by
        obtain ⟨q, hq⟩ : ∃ q, m - (x : Int) = 128 * q := ⟨m / 128, by omega⟩
        rw [hq, Int.mul_tdiv_cancel_left _ (by decide)]; omega
      rw [this, IntWalk.i64_in _ (by omega)]
    have hm2 : (x + 128) % 256 = x + 128 := Nat.mod_eq_of_lt (by omega)
    have hsn := bA_snoc acc (x + 128) (by omega)
    have key : ∀ d : Int, (d = m.tmod 128 ∧ ((d < 0 ∧ IntKind.i64.wrap (d + 128) = (x : Int)) ∨ (¬ d < 0 ∧ d = (x : Int)))) → True := fun _ _ => trivial
    have hd : m.tmod 128 = (x : Int) ∨ (m.tmod 128 < 0 ∧ m.tmod 128 + 128 = (x : Int)) := by
      rcases Int.lt_or_le m 0 with h0 | h0
      · have := Int.tmod_eq_emod (a := m) (b := 128)
        rw [this]
        split
        · left; omega
        · right; constructor <;> simp <;> omega
      · left; rw [Int.tmod_eq_emod_of_nonneg h0, hx]
    have go1 : m < -64 ∨ ¬ m < -64 ∧ m > 63 := by omega
    rcases hd with hd | ⟨hd1, hd2⟩
    · have hd3 : ¬ (x : Int) < 0 := by omega
      rcases go1 with g | ⟨g1, g2⟩
      · ((try first | refine walk_aw env_ok (none) ?_ | refine walk_aw envR_ok (none) ?_); try simp -implicitDefEqProofs (maxSteps := 1000000) only [go_sem, ↓reduceIte, reduceCtorEq, Nat.reduceLT, Nat.reduceEqDiff, Nat.reduceBEq, Nat.reduceAdd, Nat.reduceMul, Nat.reduceSub, Nat.reduceLeDiff, Int.reduceNeg, Int.reduceLT, Int.reduceLE, Int.reduceEq, Int.reduceAdd, Int.reduceToNat, s0, s3, g, hd, hd3, e2, e3, e4, u8_nat, hm2, uni_i1, hsn, hcap, Nat.zero_le])
        exact ⟨⟨m / 128, acc ++ [UInt8.ofNat (x + 128)], by omega, by rw [← hacc]; simp, rfl, rfl⟩, by omega⟩
      · ((try first | refine walk_aw env_ok (none) ?_ | refine walk_aw envR_ok (none) ?_); try simp -implicitDefEqProofs (maxSteps := 1000000) only [go_sem, ↓reduceIte, reduceCtorEq, Nat.reduceLT, Nat.reduceEqDiff, Nat.reduceBEq, Nat.reduceAdd, Nat.reduceMul, Nat.reduceSub, Nat.reduceLeDiff, Int.reduceNeg, Int.reduceLT, Int.reduceLE, Int.reduceEq, Int.reduceAdd, Int.reduceToNat, s0, s3, g1, g2, hd, hd3, e2, e3, e4, u8_nat, hm2, uni_i1, hsn, hcap, Nat.zero_le])
        exact ⟨⟨m / 128, acc ++ [UInt8.ofNat (x + 128)], by omega, by rw [← hacc]; simp, rfl, rfl⟩, by omega⟩
    · have hd3 : IntKind.i64.wrap (m.tmod 128 + 128) = (x : Int) := by rw [hd2, IntWalk.i64_in _ (by omega)]
      rcases go1 with g | ⟨g1, g2⟩
      · ((try first | refine walk_aw env_ok (none) ?_ | refine walk_aw envR_ok (none) ?_); try simp -implicitDefEqProofs (maxSteps := 1000000) only [go_sem, ↓reduceIte, reduceCtorEq, Nat.reduceLT, Nat.reduceEqDiff, Nat.reduceBEq, Nat.reduceAdd, Nat.reduceMul, Nat.reduceSub, Nat.reduceLeDiff, Int.reduceNeg, Int.reduceLT, Int.reduceLE, Int.reduceEq, Int.reduceAdd, Int.reduceToNat, s0, s3, g, hd1, hd3, e2, e3, e4, u8_nat, hm2, uni_i1, hsn, hcap, Nat.zero_le])
        exact ⟨⟨m / 128, acc ++ [UInt8.ofNat (x + 128)], by omega, by rw [← hacc]; simp, rfl, rfl⟩, by omega⟩
      · ((try first | refine walk_aw env_ok (none) ?_ | refine walk_aw envR_ok (none) ?_); try simp -implicitDefEqProofs (maxSteps := 1000000) only [go_sem, ↓reduceIte, reduceCtorEq, Nat.reduceLT, Nat.reduceEqDiff, Nat.reduceBEq, Nat.reduceAdd, Nat.reduceMul, Nat.reduceSub, Nat.reduceLeDiff, Int.reduceNeg, Int.reduceLT, Int.reduceLE, Int.reduceEq, Int.reduceAdd, Int.reduceToNat, s0, s3, g1, g2, hd1, hd3, e2, e3, e4, u8_nat, hm2, uni_i1, hsn, hcap, Nat.zero_le])
        exact ⟨⟨m / 128, acc ++ [UInt8.ofNat (x + 128)], by omega, by rw [← hacc]; simp, rfl, rfl⟩, by omega⟩
end
end Go.Ab
end
