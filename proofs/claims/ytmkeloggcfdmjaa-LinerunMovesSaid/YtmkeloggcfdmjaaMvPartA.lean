/- Contracts of the functions that the law reaches. -/
import Derived.Test.YtmkeloggcfdmjaaMvLAbSet
import Derived.Test.YtmkeloggcfdmjaaProg
import Derived.IntWalk
set_option linter.all false
set_option linter.unusedSimpArgs false
set_option linter.unusedVariables false
set_option linter.unnecessarySimpa false
section
/- The types that the code names, out of the program. -/
namespace Go.Ab
open V Go.Proofs
theorem T2 : tyFrom Try.prog 2 = some ⟨.int .i64, 1, 8, .int .i64 0, true⟩ := by kernel_rfl
theorem T3 : tyFrom Try.prog 3 = some ⟨.int .i64, 1, 8, .int .i64 0, true⟩ := by kernel_rfl
theorem T4 : tyFrom Try.prog 4 = some ⟨.bool, 1, 1, .bool false, true⟩ := by kernel_rfl
theorem T5 : tyFrom Try.prog 5 = some ⟨.int .u8, 1, 1, .int .u8 0, true⟩ := by kernel_rfl
theorem T9 : tyFrom Try.prog 9 = some ⟨.str, 1, 16, .str ⟨#[]⟩, true⟩ := by kernel_rfl
theorem T22 : tyFrom Try.prog 22 = some ⟨.sl 3, 1, 24, .sl [] (some 0) (), true⟩ := by kernel_rfl
theorem T23 : tyFrom Try.prog 23 = some ⟨.sl 9, 1, 24, .sl [] (some 0) (), true⟩ := by kernel_rfl
theorem T24 : tyFrom Try.prog 24 = some ⟨.sl 51, 1, 24, .sl [] (some 0) (), true⟩ := by kernel_rfl
theorem T25 : tyFrom Try.prog 25 = some ⟨.int .u64, 1, 8, .int .u64 0, true⟩ := by kernel_rfl
theorem T27 : tyFrom Try.prog 27 = some ⟨.st [(0, 4), (1, 4), (2, 3), (3, 3), (4, 3), (5, 3), (6, 22), (7, 23), (8, 24), (9, 25), (10, 25)], 11, 128, .agg [.bool false, .bool false, .int .i64 0, .int .i64 0, .int .i64 0, .int .i64 0, .sl [] (some 0) (), .sl [] (some 0) (), .sl [] (some 0) (), .int .u64 0, .int .u64 0], true⟩ := by kernel_rfl
theorem T28 : tyFrom Try.prog 28 = some ⟨.sl 5, 1, 24, .sl [] (some 0) (), true⟩ := by kernel_rfl
theorem T31 : tyFrom Try.prog 31 = some ⟨.st [(0, 4), (1, 4), (2, 3), (3, 3), (4, 3), (5, 3), (6, 22), (7, 23), (8, 24), (9, 25), (10, 25)], 11, 128, .agg [.bool false, .bool false, .int .i64 0, .int .i64 0, .int .i64 0, .int .i64 0, .sl [] (some 0) (), .sl [] (some 0) (), .sl [] (some 0) (), .int .u64 0, .int .u64 0], true⟩ := by kernel_rfl
theorem T32 : tyFrom Try.prog 32 = some ⟨.sl 41, 1, 24, .sl [] (some 0) (), true⟩ := by kernel_rfl
theorem T33 : tyFrom Try.prog 33 = some ⟨.int .i64, 1, 8, .int .i64 0, true⟩ := by kernel_rfl
theorem T41 : tyFrom Try.prog 41 = some ⟨.st [(0, 25), (1, 3), (2, 3), (3, 3), (4, 4), (5, 4), (6, 4), (7, 4), (8, 4), (9, 25), (10, 25)], 11, 56, .agg [.int .u64 0, .int .i64 0, .int .i64 0, .int .i64 0, .bool false, .bool false, .bool false, .bool false, .bool false, .int .u64 0, .int .u64 0], true⟩ := by kernel_rfl
theorem T45 : tyFrom Try.prog 45 = some ⟨.sl 25, 1, 24, .sl [] (some 0) (), true⟩ := by kernel_rfl
theorem T51 : tyFrom Try.prog 51 = some ⟨.st [(0, 9), (1, 3)], 2, 24, .agg [.str ⟨#[]⟩, .int .i64 0], true⟩ := by kernel_rfl
theorem T53 : tyFrom Try.prog 53 = some ⟨.ptr 57, 1, 8, .ptr none, true⟩ := by kernel_rfl
theorem T54 : tyFrom Try.prog 54 = some ⟨.ptr 79, 1, 8, .ptr none, true⟩ := by kernel_rfl
theorem T57 : tyFrom Try.prog 57 = some ⟨.st [(0, 31), (11, 54), (12, 41), (23, 32)], 24, 216, .agg [.bool false, .bool false, .int .i64 0, .int .i64 0, .int .i64 0, .int .i64 0, .sl [] (some 0) (), .sl [] (some 0) (), .sl [] (some 0) (), .int .u64 0, .int .u64 0, .ptr none, .int .u64 0, .int .i64 0, .int .i64 0, .int .i64 0, .bool false, .bool false, .bool false, .bool false, .bool false, .int .u64 0, .int .u64 0, .sl [] (some 0) ()], true⟩ := by kernel_rfl
theorem T63 : tyFrom Try.prog 63 = some ⟨.ptr 68, 1, 8, .ptr none, true⟩ := by kernel_rfl
theorem T64 : tyFrom Try.prog 64 = some ⟨.ptr 66, 1, 8, .ptr none, true⟩ := by kernel_rfl
theorem T66 : tyFrom Try.prog 66 = some ⟨.st [(0, 28), (1, 3), (2, 3)], 3, 40, .agg [.sl [] (some 0) (), .int .i64 0, .int .i64 0], true⟩ := by kernel_rfl
theorem T68 : tyFrom Try.prog 68 = some ⟨.st [(0, 27), (11, 64), (12, 41), (23, 32)], 24, 216, .agg [.bool false, .bool false, .int .i64 0, .int .i64 0, .int .i64 0, .int .i64 0, .sl [] (some 0) (), .sl [] (some 0) (), .sl [] (some 0) (), .int .u64 0, .int .u64 0, .ptr none, .int .u64 0, .int .i64 0, .int .i64 0, .int .i64 0, .bool false, .bool false, .bool false, .bool false, .bool false, .int .u64 0, .int .u64 0, .sl [] (some 0) ()], true⟩ := by kernel_rfl
theorem T71 : tyFrom Try.prog 71 = some ⟨.fn, 1, 8, .nilFn, true⟩ := by kernel_rfl
theorem T73 : tyFrom Try.prog 73 = some ⟨.int .u64, 1, 8, .int .u64 0, true⟩ := by kernel_rfl
theorem T75 : tyFrom Try.prog 75 = some ⟨.arr 12 3, 12, 96, .agg [.int .i64 0, .int .i64 0, .int .i64 0, .int .i64 0, .int .i64 0, .int .i64 0, .int .i64 0, .int .i64 0, .int .i64 0, .int .i64 0, .int .i64 0, .int .i64 0], true⟩ := by kernel_rfl
theorem T79 : tyFrom Try.prog 79 = some ⟨.st [(0, 28), (1, 3), (2, 4), (3, 33)], 4, 48, .agg [.sl [] (some 0) (), .int .i64 0, .bool false, .int .i64 0], true⟩ := by kernel_rfl
theorem T93 : tyFrom Try.prog 93 = some ⟨.arr 10 5, 10, 10, .agg [.int .u8 0, .int .u8 0, .int .u8 0, .int .u8 0, .int .u8 0, .int .u8 0, .int .u8 0, .int .u8 0, .int .u8 0, .int .u8 0], true⟩ := by kernel_rfl
theorem mixed : Try.prog.follows .mixedOrders = true := by kernel_rfl
theorem R0 : Try.f0.results.toList = [] := rfl
theorem R1 : Try.f1.results.toList = [] := rfl
theorem R2 : Try.f2.results.toList = [] := rfl
theorem R3 : Try.f3.results.toList = [.tmp 6] := rfl
theorem R4 : Try.f4.results.toList = [.tmp 6] := rfl
theorem R5 : Try.f5.results.toList = [.tmp 8] := rfl
theorem R6 : Try.f6.results.toList = [.tmp 0] := rfl
theorem R7 : Try.f7.results.toList = [.tmp 4] := rfl
theorem R8 : Try.f8.results.toList = [.tmp 4, .tmp 5] := rfl
theorem R9 : Try.f9.results.toList = [.tmp 4] := rfl
theorem R10 : Try.f10.results.toList = [.tmp 4, .tmp 5] := rfl
theorem R11 : Try.f11.results.toList = [.cell 2 41] := rfl
theorem R12 : Try.f12.results.toList = [.cell 2 41] := rfl
theorem R13 : Try.f13.results.toList = [.tmp 4] := rfl
theorem R14 : Try.f14.results.toList = [.cell 0 31] := rfl
theorem R15 : Try.f15.results.toList = [.tmp 4] := rfl
theorem R16 : Try.f16.results.toList = [.tmp 2] := rfl
theorem R17 : Try.f17.results.toList = [.tmp 2] := rfl
theorem R18 : Try.f18.results.toList = [.tmp 2] := rfl
theorem R19 : Try.f19.results.toList = [.tmp 2] := rfl
theorem R20 : Try.f20.results.toList = [.tmp 2] := rfl
theorem R21 : Try.f21.results.toList = [] := rfl
theorem R22 : Try.f22.results.toList = [] := rfl
theorem R23 : Try.f23.results.toList = [.tmp 2] := rfl
theorem R24 : Try.f24.results.toList = [.tmp 2] := rfl
theorem R25 : Try.f25.results.toList = [] := rfl
theorem R26 : Try.f26.results.toList = [.tmp 4] := rfl
theorem R27 : Try.f27.results.toList = [.tmp 4] := rfl
theorem R28 : Try.f28.results.toList = [.tmp 2] := rfl
theorem R29 : Try.f29.results.toList = [.tmp 6] := rfl
theorem R30 : Try.f30.results.toList = [.cell 0 75] := rfl
theorem R31 : Try.f31.results.toList = [.tmp 2] := rfl
theorem R32 : Try.f32.results.toList = [.tmp 4] := rfl
theorem R33 : Try.f33.results.toList = [] := rfl
theorem R34 : Try.f34.results.toList = [] := rfl
theorem R35 : Try.f35.results.toList = [] := rfl
theorem R36 : Try.f36.results.toList = [] := rfl
theorem R37 : Try.f37.results.toList = [.tmp 2] := rfl
theorem R38 : Try.f38.results.toList = [.tmp 2] := rfl
theorem R39 : Try.f39.results.toList = [.tmp 4] := rfl
theorem R40 : Try.f40.results.toList = [.tmp 2] := rfl
theorem R41 : Try.f41.results.toList = [.tmp 2] := rfl
theorem R42 : Try.f42.results.toList = [.tmp 4] := rfl
theorem R43 : Try.f43.results.toList = [] := rfl
theorem R44 : Try.f44.results.toList = [] := rfl
theorem R45 : Try.f45.results.toList = [] := rfl
theorem R46 : Try.f46.results.toList = [] := rfl
theorem R47 : Try.f47.results.toList = [.tmp 2] := rfl
theorem R48 : Try.f48.results.toList = [.tmp 2] := rfl
theorem R49 : Try.f49.results.toList = [.tmp 2] := rfl
theorem R50 : Try.f50.results.toList = [] := rfl
theorem R51 : Try.f51.results.toList = [.tmp 4] := rfl
theorem R52 : Try.f52.results.toList = [.tmp 4] := rfl
theorem R53 : Try.f53.results.toList = [.tmp 2] := rfl
theorem R54 : Try.f54.results.toList = [] := rfl
theorem R55 : Try.f55.results.toList = [.tmp 4] := rfl
theorem R56 : Try.f56.results.toList = [.tmp 2] := rfl
theorem R57 : Try.f57.results.toList = [.tmp 2] := rfl
theorem R58 : Try.f58.results.toList = [.cell 2 93, .tmp 3, .tmp 4] := rfl
theorem R59 : Try.f59.results.toList = [.tmp 2] := rfl
theorem R60 : Try.f60.results.toList = [.tmp 2] := rfl
theorem R61 : Try.f61.results.toList = [.tmp 2] := rfl
theorem R62 : Try.f62.results.toList = [] := rfl
theorem R63 : Try.f63.results.toList = [.tmp 4] := rfl
theorem R64 : Try.f64.results.toList = [.tmp 2] := rfl
theorem R65 : Try.f65.results.toList = [.tmp 2] := rfl
theorem R66 : Try.f66.results.toList = [.tmp 4] := rfl
theorem R67 : Try.f67.results.toList = [] := rfl
theorem R68 : Try.f68.results.toList = [] := rfl
theorem R69 : Try.f69.results.toList = [] := rfl
theorem R70 : Try.f70.results.toList = [] := rfl
theorem R71 : Try.f71.results.toList = [] := rfl
theorem R72 : Try.f72.results.toList = [] := rfl
theorem R73 : Try.f73.results.toList = [] := rfl
theorem R74 : Try.f74.results.toList = [] := rfl
theorem R75 : Try.f75.results.toList = [] := rfl
theorem R76 : Try.f76.results.toList = [] := rfl
theorem R77 : Try.f77.results.toList = [] := rfl
theorem R78 : Try.f78.results.toList = [] := rfl
theorem R79 : Try.f79.results.toList = [] := rfl
theorem R80 : Try.f80.results.toList = [] := rfl
theorem R81 : Try.f81.results.toList = [] := rfl
theorem R82 : Try.f82.results.toList = [] := rfl
theorem R83 : Try.f83.results.toList = [] := rfl
theorem R84 : Try.f84.results.toList = [] := rfl
theorem R85 : Try.f85.results.toList = [] := rfl
attribute [go_sem] T2 T3 T4 T5 T9 T22 T23 T24 T25 T27 T28 T31 T32 T33 T41 T45 T51 T53 T54 T57 T63 T64 T66 T68 T71 T73 T75 T79 T93 R0 R1 R2 R3 R4 R5 R6 R7 R8 R9 R10 R11 R12 R13 R14 R15 R16 R17 R18 R19 R20 R21 R22 R23 R24 R25 R26 R27 R28 R29 R30 R31 R32 R33 R34 R35 R36 R37 R38 R39 R40 R41 R42 R43 R44 R45 R46 R47 R48 R49 R50 R51 R52 R53 R54 R55 R56 R57 R58 R59 R60 R61 R62 R63 R64 R65 R66 R67 R68 R69 R70 R71 R72 R73 R74 R75 R76 R77 R78 R79 R80 R81 R82 R83 R84 R85
end Go.Ab
end

section
/- Bits of numbers: plain lemmas. -/
namespace Go.Ab
open V

theorem ofInt_nat {w a : Nat} : BitVec.ofInt w (a : Int) = BitVec.ofNat w a := by
  apply BitVec.eq_of_toNat_eq; simp [BitVec.toNat_ofInt, BitVec.toNat_ofNat]

theorem bits_or {a b : Nat} (ha : a < 18446744073709551616) (hb : b < 18446744073709551616) : bitsI .or .u64 (a : Int) (b : Int) = ((a ||| b : Nat) : Int) := by
  have h : a ||| b < 2 ^ 64 := Nat.or_lt_two_pow (by omega) (by omega)
  simp only [bitsI, ofInt_nat]
  rw [BitVec.toNat_or, BitVec.toNat_ofNat, BitVec.toNat_ofNat, show IntKind.u64.bits = 64 from rfl, Nat.mod_eq_of_lt (by omega), Nat.mod_eq_of_lt (by omega)]
  exact IntWalk.u64_in _ (by omega)
theorem bits_and {a b : Nat} (ha : a < 18446744073709551616) (hb : b < 18446744073709551616) : bitsI .and .u64 (a : Int) (b : Int) = ((a &&& b : Nat) : Int) := by
  have h : a &&& b ≤ a := Nat.and_le_left
  simp only [bitsI, ofInt_nat]
  rw [BitVec.toNat_and, BitVec.toNat_ofNat, BitVec.toNat_ofNat, show IntKind.u64.bits = 64 from rfl, Nat.mod_eq_of_lt (by omega), Nat.mod_eq_of_lt (by omega)]
  exact IntWalk.u64_in _ (by omega)

theorem and127 {a : Nat} (h : a < 18446744073709551616) : bitsI .and .u64 (a : Int) 127 = ((a % 128 : Nat) : Int) := by
  rw [show (127 : Int) = ((127 : Nat) : Int) from rfl, bits_and h (by omega), show (127 : Nat) = 2 ^ 7 - 1 from rfl, Nat.and_two_pow_sub_one_eq_mod]

/-- A number of bytes, the lowest first. -/
def le : List UInt8 → Nat
  | [] => 0
  | x :: l => x.toNat + 256 * le l
theorem le_lt (l : List UInt8) : le l < 256 ^ l.length := by
  induction l with
  | nil => simp [le]
  | cons x l ih => simp only [le, List.length_cons, Nat.pow_succ]; have := x.toNat_lt; omega
theorem le_append (l m : List UInt8) : le (l ++ m) = le l + 256 ^ l.length * le m := by
  induction l with
  | nil => simp [le]
  | cons x l ih => simp only [List.cons_append, le, ih, List.length_cons, Nat.pow_succ, Nat.mul_add, Nat.mul_assoc, Nat.mul_comm, Nat.mul_left_comm]; omega
theorem le_snoc (l : List UInt8) (x : UInt8) : le (l ++ [x]) = le l + x.toNat * 2 ^ (8 * l.length) := by
  rw [le_append, show (256 : Nat) = 2 ^ 8 from rfl, ← Nat.pow_mul]; simp [le, Nat.mul_comm]
theorem or_high {a b i : Nat} (h : a < 2 ^ i) : a ||| b * 2 ^ i = a + b * 2 ^ i := by
  rw [Nat.or_comm, ← Nat.shiftLeft_eq, Nat.add_comm]; exact (Nat.shiftLeft_add_eq_or_of_lt h b).symm
end Go.Ab
end

section
/- Package cursor: contracts. -/
namespace Go.Ab
open V Go.Proofs
set_option maxHeartbeats 4000000
set_option maxRecDepth 10000
set_option linter.unusedSimpArgs false
set_option linter.unusedVariables false

/-- Bytes, as values. -/
def bA (l : List UInt8) : List A := l.map byteA
theorem bA_flagless (l : List UInt8) : flaglessL (bA l) = true := by
  rw [flaglessL_all]; simp only [bA, List.all_eq_true, List.mem_map]; rintro _ ⟨x, _, rfl⟩; rfl
theorem bA_uni (l : List UInt8) : Uni 1 (bA l) = true := by
  simp only [Uni, bA, List.all_map, List.all_eq_true]; intro x _; rfl
theorem bA_length (l : List UInt8) : (bA l).length = l.length := by simp [bA]
theorem bA_slice (l : List UInt8) (i j : Nat) : List.drop i (List.take j (bA l)) = bA ((l.take j).drop i) := by simp [bA, List.map_drop, List.map_take]
theorem bA_strip (l : List UInt8) : stripL (bA l) = bA l := by
  induction l with
  | nil => rfl
  | cons x l ih => show V.strip (byteA x) :: stripL (bA l) = _; rw [ih]; rfl
theorem bA_share (l : List UInt8) : shareL (bA l) = bA l := by
  induction l with
  | nil => rfl
  | cons x l ih => show V.share (byteA x) :: shareL (bA l) = _; rw [ih]; rfl
theorem bA_low (n : Nat) (l : List UInt8) : lowL n (bA l) = true := by
  induction l with
  | nil => rfl
  | cons x l ih => show (V.low n (byteA x) && lowL n (bA l)) = true; rw [ih]; rfl
attribute [go_sem] bA_strip bA_share bA_low
attribute [go_sem] bA_flagless bA_uni bA_length bA_slice

/-- A cursor's state. -/
structure CS where
  b : List UInt8
  pos : Nat
  err : Int

def CS.Ok (s : CS) : Prop := s.pos ≤ s.b.length ∧ s.b.length < 4611686018427387904 ∧ 0 ≤ s.err ∧ s.err < 1000000
/-- A cursor's cells. -/
def CS.cur (s : CS) : List A := [.sl (bA s.b) none (), .int .i64 s.pos, .bool true, .int .i64 s.err]
theorem cur_len (s : CS) : s.cur.length = 4 := rfl
theorem cur_0 (s : CS) : s.cur[0]? = some (.sl (bA s.b) none ()) := rfl
theorem cur_1 (s : CS) : s.cur[1]? = some (.int .i64 s.pos) := rfl
theorem cur_2 (s : CS) : s.cur[2]? = some (.bool true) := rfl
theorem cur_3 (s : CS) : s.cur[3]? = some (.int .i64 s.err) := rfl
theorem cur_p1 (s : CS) (a b : Nat) : s.cur.take 1 ++ [.int .i64 ((a : Int) + (b : Int))] ++ s.cur.drop 2 = ({ s with pos := a + b } : CS).cur := rfl
theorem cur_p3 (s : CS) (e : Int) : s.cur.take 3 ++ [.int .i64 e] ++ s.cur.drop 4 = ({ s with err := e } : CS).cur := rfl
attribute [go_sem] cur_len cur_0 cur_1 cur_2 cur_3 cur_p1 cur_p3

def CS.left (s : CS) : Nat := if s.err = 0 then s.b.length - s.pos else 0
def CS.fail (s : CS) (e : Int) : CS := if s.err = 0 then { s with err := e } else s
def CS.take (s : CS) (n : Nat) : List UInt8 × CS :=
  if s.err = 0 then (if n ≤ s.b.length - s.pos then ((s.b.take (s.pos + n)).drop s.pos, { s with pos := s.pos + n }) else ([], { s with err := 10 })) else ([], s)

theorem toNat_add (a b : Nat) : ((a : Int) + (b : Int)).toNat = a + b := by omega
attribute [go_sem] toNat_add

theorem set_same {H : Heap} {p : Nat} {x : Ob Unit} (h : H[p]? = some x) : H.set p x = H := by
  apply List.ext_getElem?; intro i
  rw [List.getElem?_set]
  split
  · rename_i e; subst e
    split
    · exact h.symm
    · rename_i h2; rw [List.getElem?_eq_none (by omega)] at h; simp at h
  · rfl

theorem width_spec {s : Int} {H : Heap} {Q : A → Heap → Prop} (h : Q (.int .i64 (min (max s 0) 8)) H) : AC Try.prog 53 [.int .i64 s] H Q := by
  refine AC.enter (E := env Try.prog 6 (fun _ => .copy) (fun _ => false)) env_ok Try.func53 rfl rfl rfl (by simp only [List.length_cons, List.length_nil]; exact of_decide_eq_true rfl) ?_
  ((try simp only [go_sem, ↓reduceIte, reduceCtorEq, Nat.reduceLT, Nat.reduceEqDiff, Nat.reduceBEq, Nat.reduceAdd, Nat.reduceMul, Nat.reduceSub, Nat.reduceLeDiff, Int.reduceNeg, Int.reduceLT, Int.reduceLE, Int.reduceEq, Int.reduceAdd, Int.reduceToNat]); repeat ((first | refine AW.seq ?_ | refine AW.region env_ok ?_ | refine AW.region envR_ok ?_ | refine AW.skip ?_ | refine AW.block ?_ | refine AW.exit ?_ | refine AW.ret ?_ | (refine AW.cond (b := true) ?_ ?_; simp only [ev, upd, ↓reduceIte, Nat.reduceEqDiff]; rw [if_pos rfl]) | (refine AW.cond (b := false) ?_ ?_; simp only [ev, upd, ↓reduceIte, Nat.reduceEqDiff]; rw [if_neg Bool.false_ne_true]) | fail) <;> try simp only [go_sem, ↓reduceIte, reduceCtorEq, Nat.reduceLT, Nat.reduceEqDiff, Nat.reduceBEq, Nat.reduceAdd, Nat.reduceMul, Nat.reduceSub, Nat.reduceLeDiff, Int.reduceNeg, Int.reduceLT, Int.reduceLE, Int.reduceEq, Int.reduceAdd, Int.reduceToNat]))
  exact .inl h

section
variable {p : Nat} {s : CS} {H : Heap} {Q : A → Heap → Prop}

theorem Err_spec (hp : H[p]? = some (.cells s.cur)) (h : Q (.int .i64 s.err) H) : AC Try.prog 23 [.ptr (some (p, 0))] H Q := by
  refine AC.enter (E := env Try.prog 16 (fun _ => .copy) (fun _ => false)) env_ok Try.func23 rfl rfl rfl (by simp only [List.length_cons, List.length_nil]; exact of_decide_eq_true rfl) ?_
  ((try simp only [go_sem, ↓reduceIte, reduceCtorEq, Nat.reduceLT, Nat.reduceEqDiff, Nat.reduceBEq, Nat.reduceAdd, Nat.reduceMul, Nat.reduceSub, Nat.reduceLeDiff, Int.reduceNeg, Int.reduceLT, Int.reduceLE, Int.reduceEq, Int.reduceAdd, Int.reduceToNat, hp]); repeat ((first | refine AW.seq ?_ | refine AW.region env_ok ?_ | refine AW.region envR_ok ?_ | refine AW.skip ?_ | refine AW.block ?_ | refine AW.exit ?_ | refine AW.ret ?_ | (refine AW.cond (b := true) ?_ ?_; simp only [ev, upd, ↓reduceIte, Nat.reduceEqDiff]; rw [if_pos rfl]) | (refine AW.cond (b := false) ?_ ?_; simp only [ev, upd, ↓reduceIte, Nat.reduceEqDiff]; rw [if_neg Bool.false_ne_true]) | fail) <;> try simp only [go_sem, ↓reduceIte, reduceCtorEq, Nat.reduceLT, Nat.reduceEqDiff, Nat.reduceBEq, Nat.reduceAdd, Nat.reduceMul, Nat.reduceSub, Nat.reduceLeDiff, Int.reduceNeg, Int.reduceLT, Int.reduceLE, Int.reduceEq, Int.reduceAdd, Int.reduceToNat, hp]))
  ((try simp only [go_sem, ↓reduceIte, reduceCtorEq, Nat.reduceLT, Nat.reduceEqDiff, Nat.reduceBEq, Nat.reduceAdd, Nat.reduceMul, Nat.reduceSub, Nat.reduceLeDiff, Int.reduceNeg, Int.reduceLT, Int.reduceLE, Int.reduceEq, Int.reduceAdd, Int.reduceToNat, hp]); repeat ((first | refine AW.seq ?_ | refine AW.region env_ok ?_ | refine AW.region envR_ok ?_ | refine AW.skip ?_ | refine AW.block ?_ | refine AW.exit ?_ | refine AW.ret ?_ | (refine AW.cond (b := true) ?_ ?_; simp only [ev, upd, ↓reduceIte, Nat.reduceEqDiff]; rw [if_pos rfl]) | (refine AW.cond (b := false) ?_ ?_; simp only [ev, upd, ↓reduceIte, Nat.reduceEqDiff]; rw [if_neg Bool.false_ne_true]) | fail) <;> try simp only [go_sem, ↓reduceIte, reduceCtorEq, Nat.reduceLT, Nat.reduceEqDiff, Nat.reduceBEq, Nat.reduceAdd, Nat.reduceMul, Nat.reduceSub, Nat.reduceLeDiff, Int.reduceNeg, Int.reduceLT, Int.reduceLE, Int.reduceEq, Int.reduceAdd, Int.reduceToNat, hp]))
  exact .inl h

theorem Left_spec (hs : s.Ok) (hp : H[p]? = some (.cells s.cur)) (h : Q (.int .i64 s.left) H) : AC Try.prog 19 [.ptr (some (p, 0))] H Q := by
  obtain ⟨o1, o2, o3, o4⟩ := hs
  refine AC.enter (E := env Try.prog 16 (fun _ => .copy) (fun _ => false)) env_ok Try.func19 rfl rfl rfl (by simp only [List.length_cons, List.length_nil]; exact of_decide_eq_true rfl) ?_
  ((try simp only [go_sem, ↓reduceIte, reduceCtorEq, Nat.reduceLT, Nat.reduceEqDiff, Nat.reduceBEq, Nat.reduceAdd, Nat.reduceMul, Nat.reduceSub, Nat.reduceLeDiff, Int.reduceNeg, Int.reduceLT, Int.reduceLE, Int.reduceEq, Int.reduceAdd, Int.reduceToNat, hp]); repeat ((first | refine AW.seq ?_ | refine AW.region env_ok ?_ | refine AW.region envR_ok ?_ | refine AW.skip ?_ | refine AW.block ?_ | refine AW.exit ?_ | refine AW.ret ?_ | (refine AW.cond (b := true) ?_ ?_; simp only [ev, upd, ↓reduceIte, Nat.reduceEqDiff]; rw [if_pos rfl]) | (refine AW.cond (b := false) ?_ ?_; simp only [ev, upd, ↓reduceIte, Nat.reduceEqDiff]; rw [if_neg Bool.false_ne_true]) | fail) <;> try simp only [go_sem, ↓reduceIte, reduceCtorEq, Nat.reduceLT, Nat.reduceEqDiff, Nat.reduceBEq, Nat.reduceAdd, Nat.reduceMul, Nat.reduceSub, Nat.reduceLeDiff, Int.reduceNeg, Int.reduceLT, Int.reduceLE, Int.reduceEq, Int.reduceAdd, Int.reduceToNat, hp]))
  refine Err_spec hp ?_
  simp only [go_sem, ↓reduceIte, reduceCtorEq, Nat.reduceLT, Nat.reduceEqDiff, Nat.reduceBEq, Nat.reduceAdd, Nat.reduceMul, Nat.reduceSub, Nat.reduceLeDiff, Int.reduceNeg, Int.reduceLT, Int.reduceLE, Int.reduceEq, Int.reduceAdd, Int.reduceToNat]
  (refine AW.cond rfl ?_; (try simp only [Bool.not_eq_true', decide_eq_false_iff_not, decide_eq_true_eq, Bool.false_eq_true, Bool.and_eq_true, Bool.or_eq_true, if_true, if_false]); split <;> rename_i e)
  · ((try simp only [go_sem, ↓reduceIte, reduceCtorEq, Nat.reduceLT, Nat.reduceEqDiff, Nat.reduceBEq, Nat.reduceAdd, Nat.reduceMul, Nat.reduceSub, Nat.reduceLeDiff, Int.reduceNeg, Int.reduceLT, Int.reduceLE, Int.reduceEq, Int.reduceAdd, Int.reduceToNat, hp]); repeat ((first | refine AW.seq ?_ | refine AW.region env_ok ?_ | refine AW.region envR_ok ?_ | refine AW.skip ?_ | refine AW.block ?_ | refine AW.exit ?_ | refine AW.ret ?_ | (refine AW.cond (b := true) ?_ ?_; simp only [ev, upd, ↓reduceIte, Nat.reduceEqDiff]; rw [if_pos rfl]) | (refine AW.cond (b := false) ?_ ?_; simp only [ev, upd, ↓reduceIte, Nat.reduceEqDiff]; rw [if_neg Bool.false_ne_true]) | fail) <;> try simp only [go_sem, ↓reduceIte, reduceCtorEq, Nat.reduceLT, Nat.reduceEqDiff, Nat.reduceBEq, Nat.reduceAdd, Nat.reduceMul, Nat.reduceSub, Nat.reduceLeDiff, Int.reduceNeg, Int.reduceLT, Int.reduceLE, Int.reduceEq, Int.reduceAdd, Int.reduceToNat, hp]))
    rw [CS.left, if_neg e] at h
    exact .inl h
  · ((try simp only [go_sem, ↓reduceIte, reduceCtorEq, Nat.reduceLT, Nat.reduceEqDiff, Nat.reduceBEq, Nat.reduceAdd, Nat.reduceMul, Nat.reduceSub, Nat.reduceLeDiff, Int.reduceNeg, Int.reduceLT, Int.reduceLE, Int.reduceEq, Int.reduceAdd, Int.reduceToNat, hp]); repeat ((first | refine AW.seq ?_ | refine AW.region env_ok ?_ | refine AW.region envR_ok ?_ | refine AW.skip ?_ | refine AW.block ?_ | refine AW.exit ?_ | refine AW.ret ?_ | (refine AW.cond (b := true) ?_ ?_; simp only [ev, upd, ↓reduceIte, Nat.reduceEqDiff]; rw [if_pos rfl]) | (refine AW.cond (b := false) ?_ ?_; simp only [ev, upd, ↓reduceIte, Nat.reduceEqDiff]; rw [if_neg Bool.false_ne_true]) | fail) <;> try simp only [go_sem, ↓reduceIte, reduceCtorEq, Nat.reduceLT, Nat.reduceEqDiff, Nat.reduceBEq, Nat.reduceAdd, Nat.reduceMul, Nat.reduceSub, Nat.reduceLeDiff, Int.reduceNeg, Int.reduceLT, Int.reduceLE, Int.reduceEq, Int.reduceAdd, Int.reduceToNat, hp]))
    refine AW.chain env_ok [0, 1, 3, 7, 15, 0, 32, 96, 224, 511, 1023] [0, 1, 2, 3, 4, 5, 6, 7, 8, 9] [(10, [], [])] mixed (by decide) ?_
    simp (disch := omega) only [go_sem, ↓reduceIte, reduceCtorEq, Nat.reduceLT, Nat.reduceEqDiff, Nat.reduceBEq, Nat.reduceAdd, Nat.reduceMul, Nat.reduceSub, Nat.reduceLeDiff, Int.reduceNeg, Int.reduceLT, Int.reduceLE, Int.reduceEq, Int.reduceAdd, Int.reduceToNat, IntWalk.i64_in, IntWalk.u64_in, IntWalk.u8_in, if_pos, if_neg, Bool.and_eq_true, decide_eq_true_eq, hp]
    ((try simp only [go_sem, ↓reduceIte, reduceCtorEq, Nat.reduceLT, Nat.reduceEqDiff, Nat.reduceBEq, Nat.reduceAdd, Nat.reduceMul, Nat.reduceSub, Nat.reduceLeDiff, Int.reduceNeg, Int.reduceLT, Int.reduceLE, Int.reduceEq, Int.reduceAdd, Int.reduceToNat]); repeat ((first | refine AW.seq ?_ | refine AW.region env_ok ?_ | refine AW.region envR_ok ?_ | refine AW.skip ?_ | refine AW.block ?_ | refine AW.exit ?_ | refine AW.ret ?_ | (refine AW.cond (b := true) ?_ ?_; simp only [ev, upd, ↓reduceIte, Nat.reduceEqDiff]; rw [if_pos rfl]) | (refine AW.cond (b := false) ?_ ?_; simp only [ev, upd, ↓reduceIte, Nat.reduceEqDiff]; rw [if_neg Bool.false_ne_true]) | fail) <;> try simp only [go_sem, ↓reduceIte, reduceCtorEq, Nat.reduceLT, Nat.reduceEqDiff, Nat.reduceBEq, Nat.reduceAdd, Nat.reduceMul, Nat.reduceSub, Nat.reduceLeDiff, Int.reduceNeg, Int.reduceLT, Int.reduceLE, Int.reduceEq, Int.reduceAdd, Int.reduceToNat]))
    rw [show ((s.left : Nat) : Int) = s.b.length - s.pos by rw [CS.left, if_pos (by omega)]; omega] at h
    exact .inl h

theorem Fail_spec {e : Int} (hp : H[p]? = some (.cells s.cur)) (h : Q (.tup []) (H.set p (.cells (s.fail e).cur))) : AC Try.prog 54 [.ptr (some (p, 0)), .int .i64 e] H Q := by
  refine AC.enter (E := env Try.prog 11 (fun _ => .copy) (fun _ => false)) env_ok Try.func54 rfl rfl rfl (by simp only [List.length_cons, List.length_nil]; exact of_decide_eq_true rfl) ?_
  ((try simp only [go_sem, ↓reduceIte, reduceCtorEq, Nat.reduceLT, Nat.reduceEqDiff, Nat.reduceBEq, Nat.reduceAdd, Nat.reduceMul, Nat.reduceSub, Nat.reduceLeDiff, Int.reduceNeg, Int.reduceLT, Int.reduceLE, Int.reduceEq, Int.reduceAdd, Int.reduceToNat, hp]); repeat ((first | refine AW.seq ?_ | refine AW.region env_ok ?_ | refine AW.region envR_ok ?_ | refine AW.skip ?_ | refine AW.block ?_ | refine AW.exit ?_ | refine AW.ret ?_ | (refine AW.cond (b := true) ?_ ?_; simp only [ev, upd, ↓reduceIte, Nat.reduceEqDiff]; rw [if_pos rfl]) | (refine AW.cond (b := false) ?_ ?_; simp only [ev, upd, ↓reduceIte, Nat.reduceEqDiff]; rw [if_neg Bool.false_ne_true]) | fail) <;> try simp only [go_sem, ↓reduceIte, reduceCtorEq, Nat.reduceLT, Nat.reduceEqDiff, Nat.reduceBEq, Nat.reduceAdd, Nat.reduceMul, Nat.reduceSub, Nat.reduceLeDiff, Int.reduceNeg, Int.reduceLT, Int.reduceLE, Int.reduceEq, Int.reduceAdd, Int.reduceToNat, hp]))
  refine Err_spec hp ?_
  simp only [go_sem, ↓reduceIte, reduceCtorEq, Nat.reduceLT, Nat.reduceEqDiff, Nat.reduceBEq, Nat.reduceAdd, Nat.reduceMul, Nat.reduceSub, Nat.reduceLeDiff, Int.reduceNeg, Int.reduceLT, Int.reduceLE, Int.reduceEq, Int.reduceAdd, Int.reduceToNat]
  (refine AW.cond rfl ?_; (try simp only [Bool.not_eq_true', decide_eq_false_iff_not, decide_eq_true_eq, Bool.false_eq_true, Bool.and_eq_true, Bool.or_eq_true, if_true, if_false]); split <;> rename_i e0)
  · ((try simp only [go_sem, ↓reduceIte, reduceCtorEq, Nat.reduceLT, Nat.reduceEqDiff, Nat.reduceBEq, Nat.reduceAdd, Nat.reduceMul, Nat.reduceSub, Nat.reduceLeDiff, Int.reduceNeg, Int.reduceLT, Int.reduceLE, Int.reduceEq, Int.reduceAdd, Int.reduceToNat, hp]); repeat ((first | refine AW.seq ?_ | refine AW.region env_ok ?_ | refine AW.region envR_ok ?_ | refine AW.skip ?_ | refine AW.block ?_ | refine AW.exit ?_ | refine AW.ret ?_ | (refine AW.cond (b := true) ?_ ?_; simp only [ev, upd, ↓reduceIte, Nat.reduceEqDiff]; rw [if_pos rfl]) | (refine AW.cond (b := false) ?_ ?_; simp only [ev, upd, ↓reduceIte, Nat.reduceEqDiff]; rw [if_neg Bool.false_ne_true]) | fail) <;> try simp only [go_sem, ↓reduceIte, reduceCtorEq, Nat.reduceLT, Nat.reduceEqDiff, Nat.reduceBEq, Nat.reduceAdd, Nat.reduceMul, Nat.reduceSub, Nat.reduceLeDiff, Int.reduceNeg, Int.reduceLT, Int.reduceLE, Int.reduceEq, Int.reduceAdd, Int.reduceToNat, hp]))
    rw [CS.fail, if_pos e0] at h
    exact .inl h
  · ((try simp only [go_sem, ↓reduceIte, reduceCtorEq, Nat.reduceLT, Nat.reduceEqDiff, Nat.reduceBEq, Nat.reduceAdd, Nat.reduceMul, Nat.reduceSub, Nat.reduceLeDiff, Int.reduceNeg, Int.reduceLT, Int.reduceLE, Int.reduceEq, Int.reduceAdd, Int.reduceToNat, hp]); repeat ((first | refine AW.seq ?_ | refine AW.region env_ok ?_ | refine AW.region envR_ok ?_ | refine AW.skip ?_ | refine AW.block ?_ | refine AW.exit ?_ | refine AW.ret ?_ | (refine AW.cond (b := true) ?_ ?_; simp only [ev, upd, ↓reduceIte, Nat.reduceEqDiff]; rw [if_pos rfl]) | (refine AW.cond (b := false) ?_ ?_; simp only [ev, upd, ↓reduceIte, Nat.reduceEqDiff]; rw [if_neg Bool.false_ne_true]) | fail) <;> try simp only [go_sem, ↓reduceIte, reduceCtorEq, Nat.reduceLT, Nat.reduceEqDiff, Nat.reduceBEq, Nat.reduceAdd, Nat.reduceMul, Nat.reduceSub, Nat.reduceLeDiff, Int.reduceNeg, Int.reduceLT, Int.reduceLE, Int.reduceEq, Int.reduceAdd, Int.reduceToNat, hp]))
    rw [CS.fail, if_neg e0, set_same hp] at h
    exact .inl h

theorem End_spec (hs : s.Ok) (hp : H[p]? = some (.cells s.cur)) (h : Q (.int .i64 (if s.left > 0 then 2 else s.err)) H) : AC Try.prog 57 [.ptr (some (p, 0))] H Q := by
  refine AC.enter (E := env Try.prog 8 (fun _ => .copy) (fun _ => false)) env_ok Try.func57 rfl rfl rfl (by simp only [List.length_cons, List.length_nil]; exact of_decide_eq_true rfl) ?_
  ((try simp only [go_sem, ↓reduceIte, reduceCtorEq, Nat.reduceLT, Nat.reduceEqDiff, Nat.reduceBEq, Nat.reduceAdd, Nat.reduceMul, Nat.reduceSub, Nat.reduceLeDiff, Int.reduceNeg, Int.reduceLT, Int.reduceLE, Int.reduceEq, Int.reduceAdd, Int.reduceToNat, hp]); repeat ((first | refine AW.seq ?_ | refine AW.region env_ok ?_ | refine AW.region envR_ok ?_ | refine AW.skip ?_ | refine AW.block ?_ | refine AW.exit ?_ | refine AW.ret ?_ | (refine AW.cond (b := true) ?_ ?_; simp only [ev, upd, ↓reduceIte, Nat.reduceEqDiff]; rw [if_pos rfl]) | (refine AW.cond (b := false) ?_ ?_; simp only [ev, upd, ↓reduceIte, Nat.reduceEqDiff]; rw [if_neg Bool.false_ne_true]) | fail) <;> try simp only [go_sem, ↓reduceIte, reduceCtorEq, Nat.reduceLT, Nat.reduceEqDiff, Nat.reduceBEq, Nat.reduceAdd, Nat.reduceMul, Nat.reduceSub, Nat.reduceLeDiff, Int.reduceNeg, Int.reduceLT, Int.reduceLE, Int.reduceEq, Int.reduceAdd, Int.reduceToNat, hp]))
  refine Left_spec hs hp ?_
  simp only [go_sem, ↓reduceIte, reduceCtorEq, Nat.reduceLT, Nat.reduceEqDiff, Nat.reduceBEq, Nat.reduceAdd, Nat.reduceMul, Nat.reduceSub, Nat.reduceLeDiff, Int.reduceNeg, Int.reduceLT, Int.reduceLE, Int.reduceEq, Int.reduceAdd, Int.reduceToNat]
  (refine AW.cond rfl ?_; (try simp only [Bool.not_eq_true', decide_eq_false_iff_not, decide_eq_true_eq, Bool.false_eq_true, Bool.and_eq_true, Bool.or_eq_true, if_true, if_false]); split <;> rename_i e)
  · ((try simp only [go_sem, ↓reduceIte, reduceCtorEq, Nat.reduceLT, Nat.reduceEqDiff, Nat.reduceBEq, Nat.reduceAdd, Nat.reduceMul, Nat.reduceSub, Nat.reduceLeDiff, Int.reduceNeg, Int.reduceLT, Int.reduceLE, Int.reduceEq, Int.reduceAdd, Int.reduceToNat, hp]); repeat ((first | refine AW.seq ?_ | refine AW.region env_ok ?_ | refine AW.region envR_ok ?_ | refine AW.skip ?_ | refine AW.block ?_ | refine AW.exit ?_ | refine AW.ret ?_ | (refine AW.cond (b := true) ?_ ?_; simp only [ev, upd, ↓reduceIte, Nat.reduceEqDiff]; rw [if_pos rfl]) | (refine AW.cond (b := false) ?_ ?_; simp only [ev, upd, ↓reduceIte, Nat.reduceEqDiff]; rw [if_neg Bool.false_ne_true]) | fail) <;> try simp only [go_sem, ↓reduceIte, reduceCtorEq, Nat.reduceLT, Nat.reduceEqDiff, Nat.reduceBEq, Nat.reduceAdd, Nat.reduceMul, Nat.reduceSub, Nat.reduceLeDiff, Int.reduceNeg, Int.reduceLT, Int.reduceLE, Int.reduceEq, Int.reduceAdd, Int.reduceToNat, hp]))
    rw [if_pos (by omega)] at h
    exact .inl h
  · ((try simp only [go_sem, ↓reduceIte, reduceCtorEq, Nat.reduceLT, Nat.reduceEqDiff, Nat.reduceBEq, Nat.reduceAdd, Nat.reduceMul, Nat.reduceSub, Nat.reduceLeDiff, Int.reduceNeg, Int.reduceLT, Int.reduceLE, Int.reduceEq, Int.reduceAdd, Int.reduceToNat, hp]); repeat ((first | refine AW.seq ?_ | refine AW.region env_ok ?_ | refine AW.region envR_ok ?_ | refine AW.skip ?_ | refine AW.block ?_ | refine AW.exit ?_ | refine AW.ret ?_ | (refine AW.cond (b := true) ?_ ?_; simp only [ev, upd, ↓reduceIte, Nat.reduceEqDiff]; rw [if_pos rfl]) | (refine AW.cond (b := false) ?_ ?_; simp only [ev, upd, ↓reduceIte, Nat.reduceEqDiff]; rw [if_neg Bool.false_ne_true]) | fail) <;> try simp only [go_sem, ↓reduceIte, reduceCtorEq, Nat.reduceLT, Nat.reduceEqDiff, Nat.reduceBEq, Nat.reduceAdd, Nat.reduceMul, Nat.reduceSub, Nat.reduceLeDiff, Int.reduceNeg, Int.reduceLT, Int.reduceLE, Int.reduceEq, Int.reduceAdd, Int.reduceToNat, hp]))
    refine Err_spec hp ?_
    simp only [go_sem, ↓reduceIte, reduceCtorEq, Nat.reduceLT, Nat.reduceEqDiff, Nat.reduceBEq, Nat.reduceAdd, Nat.reduceMul, Nat.reduceSub, Nat.reduceLeDiff, Int.reduceNeg, Int.reduceLT, Int.reduceLE, Int.reduceEq, Int.reduceAdd, Int.reduceToNat]
    ((try simp only [go_sem, ↓reduceIte, reduceCtorEq, Nat.reduceLT, Nat.reduceEqDiff, Nat.reduceBEq, Nat.reduceAdd, Nat.reduceMul, Nat.reduceSub, Nat.reduceLeDiff, Int.reduceNeg, Int.reduceLT, Int.reduceLE, Int.reduceEq, Int.reduceAdd, Int.reduceToNat]); repeat ((first | refine AW.seq ?_ | refine AW.region env_ok ?_ | refine AW.region envR_ok ?_ | refine AW.skip ?_ | refine AW.block ?_ | refine AW.exit ?_ | refine AW.ret ?_ | (refine AW.cond (b := true) ?_ ?_; simp only [ev, upd, ↓reduceIte, Nat.reduceEqDiff]; rw [if_pos rfl]) | (refine AW.cond (b := false) ?_ ?_; simp only [ev, upd, ↓reduceIte, Nat.reduceEqDiff]; rw [if_neg Bool.false_ne_true]) | fail) <;> try simp only [go_sem, ↓reduceIte, reduceCtorEq, Nat.reduceLT, Nat.reduceEqDiff, Nat.reduceBEq, Nat.reduceAdd, Nat.reduceMul, Nat.reduceSub, Nat.reduceLeDiff, Int.reduceNeg, Int.reduceLT, Int.reduceLE, Int.reduceEq, Int.reduceAdd, Int.reduceToNat]))
    rw [if_neg (by omega)] at h
    exact .inl h

theorem next_spec {n : Nat} (hn : n < 18446744073709551616) (hs : s.Ok) (hp : H[p]? = some (.cells s.cur)) (h : Q (.sl (bA (s.take n).1) none ()) (H.set p (.cells (s.take n).2.cur))) : AC Try.prog 52 [.ptr (some (p, 0)), .int .u64 n] H Q := by
  obtain ⟨o1, o2, o3, o4⟩ := id hs
  refine AC.enter (E := env Try.prog 49 (fun _ => .copy) (fun t => t == 4)) env_ok Try.func52 rfl rfl rfl (by simp only [List.length_cons, List.length_nil]; exact of_decide_eq_true rfl) ?_
  ((try simp only [go_sem, ↓reduceIte, reduceCtorEq, Nat.reduceLT, Nat.reduceEqDiff, Nat.reduceBEq, Nat.reduceAdd, Nat.reduceMul, Nat.reduceSub, Nat.reduceLeDiff, Int.reduceNeg, Int.reduceLT, Int.reduceLE, Int.reduceEq, Int.reduceAdd, Int.reduceToNat, hp]); repeat ((first | refine AW.seq ?_ | refine AW.region env_ok ?_ | refine AW.region envR_ok ?_ | refine AW.skip ?_ | refine AW.block ?_ | refine AW.exit ?_ | refine AW.ret ?_ | (refine AW.cond (b := true) ?_ ?_; simp only [ev, upd, ↓reduceIte, Nat.reduceEqDiff]; rw [if_pos rfl]) | (refine AW.cond (b := false) ?_ ?_; simp only [ev, upd, ↓reduceIte, Nat.reduceEqDiff]; rw [if_neg Bool.false_ne_true]) | fail) <;> try simp only [go_sem, ↓reduceIte, reduceCtorEq, Nat.reduceLT, Nat.reduceEqDiff, Nat.reduceBEq, Nat.reduceAdd, Nat.reduceMul, Nat.reduceSub, Nat.reduceLeDiff, Int.reduceNeg, Int.reduceLT, Int.reduceLE, Int.reduceEq, Int.reduceAdd, Int.reduceToNat, hp]))
  refine Err_spec hp ?_
  simp only [go_sem, ↓reduceIte, reduceCtorEq, Nat.reduceLT, Nat.reduceEqDiff, Nat.reduceBEq, Nat.reduceAdd, Nat.reduceMul, Nat.reduceSub, Nat.reduceLeDiff, Int.reduceNeg, Int.reduceLT, Int.reduceLE, Int.reduceEq, Int.reduceAdd, Int.reduceToNat]
  (refine AW.cond rfl ?_; (try simp only [Bool.not_eq_true', decide_eq_false_iff_not, decide_eq_true_eq, Bool.false_eq_true, Bool.and_eq_true, Bool.or_eq_true, if_true, if_false]); split <;> rename_i e)
  · ((try simp only [go_sem, ↓reduceIte, reduceCtorEq, Nat.reduceLT, Nat.reduceEqDiff, Nat.reduceBEq, Nat.reduceAdd, Nat.reduceMul, Nat.reduceSub, Nat.reduceLeDiff, Int.reduceNeg, Int.reduceLT, Int.reduceLE, Int.reduceEq, Int.reduceAdd, Int.reduceToNat, hp]); repeat ((first | refine AW.seq ?_ | refine AW.region env_ok ?_ | refine AW.region envR_ok ?_ | refine AW.skip ?_ | refine AW.block ?_ | refine AW.exit ?_ | refine AW.ret ?_ | (refine AW.cond (b := true) ?_ ?_; simp only [ev, upd, ↓reduceIte, Nat.reduceEqDiff]; rw [if_pos rfl]) | (refine AW.cond (b := false) ?_ ?_; simp only [ev, upd, ↓reduceIte, Nat.reduceEqDiff]; rw [if_neg Bool.false_ne_true]) | fail) <;> try simp only [go_sem, ↓reduceIte, reduceCtorEq, Nat.reduceLT, Nat.reduceEqDiff, Nat.reduceBEq, Nat.reduceAdd, Nat.reduceMul, Nat.reduceSub, Nat.reduceLeDiff, Int.reduceNeg, Int.reduceLT, Int.reduceLE, Int.reduceEq, Int.reduceAdd, Int.reduceToNat, hp]))
    rw [CS.take, if_neg e, set_same hp] at h
    exact .inl h
  · ((try simp only [go_sem, ↓reduceIte, reduceCtorEq, Nat.reduceLT, Nat.reduceEqDiff, Nat.reduceBEq, Nat.reduceAdd, Nat.reduceMul, Nat.reduceSub, Nat.reduceLeDiff, Int.reduceNeg, Int.reduceLT, Int.reduceLE, Int.reduceEq, Int.reduceAdd, Int.reduceToNat, hp]); repeat ((first | refine AW.seq ?_ | refine AW.region env_ok ?_ | refine AW.region envR_ok ?_ | refine AW.skip ?_ | refine AW.block ?_ | refine AW.exit ?_ | refine AW.ret ?_ | (refine AW.cond (b := true) ?_ ?_; simp only [ev, upd, ↓reduceIte, Nat.reduceEqDiff]; rw [if_pos rfl]) | (refine AW.cond (b := false) ?_ ?_; simp only [ev, upd, ↓reduceIte, Nat.reduceEqDiff]; rw [if_neg Bool.false_ne_true]) | fail) <;> try simp only [go_sem, ↓reduceIte, reduceCtorEq, Nat.reduceLT, Nat.reduceEqDiff, Nat.reduceBEq, Nat.reduceAdd, Nat.reduceMul, Nat.reduceSub, Nat.reduceLeDiff, Int.reduceNeg, Int.reduceLT, Int.reduceLE, Int.reduceEq, Int.reduceAdd, Int.reduceToNat, hp]))
    refine Left_spec hs hp ?_
    have hl : s.left = s.b.length - s.pos := if_pos (by omega)
    simp (disch := omega) only [go_sem, ↓reduceIte, reduceCtorEq, Nat.reduceLT, Nat.reduceEqDiff, Nat.reduceBEq, Nat.reduceAdd, Nat.reduceMul, Nat.reduceSub, Nat.reduceLeDiff, Int.reduceNeg, Int.reduceLT, Int.reduceLE, Int.reduceEq, Int.reduceAdd, Int.reduceToNat, IntWalk.i64_in, IntWalk.u64_in, IntWalk.u8_in, if_pos, if_neg, Bool.and_eq_true, decide_eq_true_eq]
    (refine AW.cond rfl ?_; (try simp only [Bool.not_eq_true', decide_eq_false_iff_not, decide_eq_true_eq, Bool.false_eq_true, Bool.and_eq_true, Bool.or_eq_true, if_true, if_false]); split <;> rename_i e2)
    · ((try simp only [go_sem, ↓reduceIte, reduceCtorEq, Nat.reduceLT, Nat.reduceEqDiff, Nat.reduceBEq, Nat.reduceAdd, Nat.reduceMul, Nat.reduceSub, Nat.reduceLeDiff, Int.reduceNeg, Int.reduceLT, Int.reduceLE, Int.reduceEq, Int.reduceAdd, Int.reduceToNat, hp]); repeat ((first | refine AW.seq ?_ | refine AW.region env_ok ?_ | refine AW.region envR_ok ?_ | refine AW.skip ?_ | refine AW.block ?_ | refine AW.exit ?_ | refine AW.ret ?_ | (refine AW.cond (b := true) ?_ ?_; simp only [ev, upd, ↓reduceIte, Nat.reduceEqDiff]; rw [if_pos rfl]) | (refine AW.cond (b := false) ?_ ?_; simp only [ev, upd, ↓reduceIte, Nat.reduceEqDiff]; rw [if_neg Bool.false_ne_true]) | fail) <;> try simp only [go_sem, ↓reduceIte, reduceCtorEq, Nat.reduceLT, Nat.reduceEqDiff, Nat.reduceBEq, Nat.reduceAdd, Nat.reduceMul, Nat.reduceSub, Nat.reduceLeDiff, Int.reduceNeg, Int.reduceLT, Int.reduceLE, Int.reduceEq, Int.reduceAdd, Int.reduceToNat, hp]))
      refine Fail_spec hp ?_
      simp only [go_sem, ↓reduceIte, reduceCtorEq, Nat.reduceLT, Nat.reduceEqDiff, Nat.reduceBEq, Nat.reduceAdd, Nat.reduceMul, Nat.reduceSub, Nat.reduceLeDiff, Int.reduceNeg, Int.reduceLT, Int.reduceLE, Int.reduceEq, Int.reduceAdd, Int.reduceToNat]
      ((try simp only [go_sem, ↓reduceIte, reduceCtorEq, Nat.reduceLT, Nat.reduceEqDiff, Nat.reduceBEq, Nat.reduceAdd, Nat.reduceMul, Nat.reduceSub, Nat.reduceLeDiff, Int.reduceNeg, Int.reduceLT, Int.reduceLE, Int.reduceEq, Int.reduceAdd, Int.reduceToNat]); repeat ((first | refine AW.seq ?_ | refine AW.region env_ok ?_ | refine AW.region envR_ok ?_ | refine AW.skip ?_ | refine AW.block ?_ | refine AW.exit ?_ | refine AW.ret ?_ | (refine AW.cond (b := true) ?_ ?_; simp only [ev, upd, ↓reduceIte, Nat.reduceEqDiff]; rw [if_pos rfl]) | (refine AW.cond (b := false) ?_ ?_; simp only [ev, upd, ↓reduceIte, Nat.reduceEqDiff]; rw [if_neg Bool.false_ne_true]) | fail) <;> try simp only [go_sem, ↓reduceIte, reduceCtorEq, Nat.reduceLT, Nat.reduceEqDiff, Nat.reduceBEq, Nat.reduceAdd, Nat.reduceMul, Nat.reduceSub, Nat.reduceLeDiff, Int.reduceNeg, Int.reduceLT, Int.reduceLE, Int.reduceEq, Int.reduceAdd, Int.reduceToNat]))
      rw [CS.take, if_pos (by omega), if_neg (by omega)] at h
      rw [CS.fail, if_pos (by omega)]
      exact .inl h
    · ((try simp only [go_sem, ↓reduceIte, reduceCtorEq, Nat.reduceLT, Nat.reduceEqDiff, Nat.reduceBEq, Nat.reduceAdd, Nat.reduceMul, Nat.reduceSub, Nat.reduceLeDiff, Int.reduceNeg, Int.reduceLT, Int.reduceLE, Int.reduceEq, Int.reduceAdd, Int.reduceToNat]); repeat ((first | refine AW.seq ?_ | refine AW.region env_ok ?_ | refine AW.region envR_ok ?_ | refine AW.skip ?_ | refine AW.block ?_ | refine AW.exit ?_ | refine AW.ret ?_ | (refine AW.cond (b := true) ?_ ?_; simp only [ev, upd, ↓reduceIte, Nat.reduceEqDiff]; rw [if_pos rfl]) | (refine AW.cond (b := false) ?_ ?_; simp only [ev, upd, ↓reduceIte, Nat.reduceEqDiff]; rw [if_neg Bool.false_ne_true]) | fail) <;> try simp only [go_sem, ↓reduceIte, reduceCtorEq, Nat.reduceLT, Nat.reduceEqDiff, Nat.reduceBEq, Nat.reduceAdd, Nat.reduceMul, Nat.reduceSub, Nat.reduceLeDiff, Int.reduceNeg, Int.reduceLT, Int.reduceLE, Int.reduceEq, Int.reduceAdd, Int.reduceToNat]))
      refine AW.chain env_ok [0, 1, 3, 7, 0, 16, 48, 112, 0, 256, 768, 1792, 0, 4096, 16128, 0, 32768, 98304, 229376, 0, 524288, 2064384, 4194303, 8388607] [0, 1, 2, 3, 4, 5, 6, 7, 8, 9, 10, 11, 12, 13, 14, 15, 16, 17, 18, 19, 20, 21, 22] [(23, [], [])] mixed (by decide) ?_
      simp (disch := omega) only [go_sem, ↓reduceIte, reduceCtorEq, Nat.reduceLT, Nat.reduceEqDiff, Nat.reduceBEq, Nat.reduceAdd, Nat.reduceMul, Nat.reduceSub, Nat.reduceLeDiff, Int.reduceNeg, Int.reduceLT, Int.reduceLE, Int.reduceEq, Int.reduceAdd, Int.reduceToNat, IntWalk.i64_in, IntWalk.u64_in, IntWalk.u8_in, if_pos, if_neg, Bool.and_eq_true, decide_eq_true_eq, hp]
      ((try simp (disch := omega) only [go_sem, ↓reduceIte, reduceCtorEq, Nat.reduceLT, Nat.reduceEqDiff, Nat.reduceBEq, Nat.reduceAdd, Nat.reduceMul, Nat.reduceSub, Nat.reduceLeDiff, Int.reduceNeg, Int.reduceLT, Int.reduceLE, Int.reduceEq, Int.reduceAdd, Int.reduceToNat, IntWalk.i64_in, IntWalk.u64_in, IntWalk.u8_in, if_pos, if_neg, Bool.and_eq_true, decide_eq_true_eq, hp]); repeat ((first | refine AW.seq ?_ | refine AW.region env_ok ?_ | refine AW.region envR_ok ?_ | refine AW.skip ?_ | refine AW.block ?_ | refine AW.exit ?_ | refine AW.ret ?_ | (refine AW.cond (b := true) ?_ ?_; simp only [ev, upd, ↓reduceIte, Nat.reduceEqDiff]; rw [if_pos rfl]) | (refine AW.cond (b := false) ?_ ?_; simp only [ev, upd, ↓reduceIte, Nat.reduceEqDiff]; rw [if_neg Bool.false_ne_true]) | fail) <;> try simp (disch := omega) only [go_sem, ↓reduceIte, reduceCtorEq, Nat.reduceLT, Nat.reduceEqDiff, Nat.reduceBEq, Nat.reduceAdd, Nat.reduceMul, Nat.reduceSub, Nat.reduceLeDiff, Int.reduceNeg, Int.reduceLT, Int.reduceLE, Int.reduceEq, Int.reduceAdd, Int.reduceToNat, IntWalk.i64_in, IntWalk.u64_in, IntWalk.u8_in, if_pos, if_neg, Bool.and_eq_true, decide_eq_true_eq, hp]))
      rw [CS.take, if_pos (by omega), if_pos (by omega)] at h
      exact .inl h

end
end Go.Ab
end

section
/- Package cursor: numbers. -/
namespace Go.Ab
open V Go.Proofs
set_option maxHeartbeats 4000000
set_option maxRecDepth 10000
set_option linter.unusedSimpArgs false
set_option linter.unusedVariables false
section
variable {p : Nat} {s : CS} {H : Heap} {Q : A → Heap → Prop}

theorem take_len (s : CS) (n : Nat) : (s.take n).1.length ≤ n := by
  unfold CS.take
  split
  · split
    · simp; omega
    · simp
  · simp

theorem bA_at (l : List UInt8) (i : Nat) (d : A) (h : i < l.length) : (bA l).getD i d = byteA l[i] := by simp [bA, h]

theorem Uint_spec {n : Int} (hs : s.Ok) (hp : H[p]? = some (.cells s.cur))
    (h : Q (.int .u64 (le (s.take (min (max n 0) 8).toNat).1 : Nat)) (H.set p (.cells (s.take (min (max n 0) 8).toNat).2.cur))) : AC Try.prog 32 [.ptr (some (p, 0)), .int .i64 n] H Q := by
  refine AC.enter (E := env Try.prog 29 (fun _ => .copy) (fun _ => false)) env_ok Try.func32 rfl rfl rfl (by simp only [List.length_cons, List.length_nil]; exact of_decide_eq_true rfl) ?_
  ((try simp only [go_sem, ↓reduceIte, reduceCtorEq, Nat.reduceLT, Nat.reduceEqDiff, Nat.reduceBEq, Nat.reduceAdd, Nat.reduceMul, Nat.reduceSub, Nat.reduceLeDiff, Int.reduceNeg, Int.reduceLT, Int.reduceLE, Int.reduceEq, Int.reduceAdd, Int.reduceToNat]); repeat ((first | refine AW.seq ?_ | refine AW.region env_ok ?_ | refine AW.region envR_ok ?_ | refine AW.skip ?_ | refine AW.block ?_ | refine AW.exit ?_ | refine AW.ret ?_ | (refine AW.cond (b := true) ?_ ?_; simp only [ev, upd, ↓reduceIte, Nat.reduceEqDiff]; rw [if_pos rfl]) | (refine AW.cond (b := false) ?_ ?_; simp only [ev, upd, ↓reduceIte, Nat.reduceEqDiff]; rw [if_neg Bool.false_ne_true]) | fail) <;> try simp only [go_sem, ↓reduceIte, reduceCtorEq, Nat.reduceLT, Nat.reduceEqDiff, Nat.reduceBEq, Nat.reduceAdd, Nat.reduceMul, Nat.reduceSub, Nat.reduceLeDiff, Int.reduceNeg, Int.reduceLT, Int.reduceLE, Int.reduceEq, Int.reduceAdd, Int.reduceToNat]))
  refine width_spec ?_
  simp (disch := omega) only [go_sem, ↓reduceIte, reduceCtorEq, Nat.reduceLT, Nat.reduceEqDiff, Nat.reduceBEq, Nat.reduceAdd, Nat.reduceMul, Nat.reduceSub, Nat.reduceLeDiff, Int.reduceNeg, Int.reduceLT, Int.reduceLE, Int.reduceEq, Int.reduceAdd, Int.reduceToNat, IntWalk.i64_in, IntWalk.u64_in, IntWalk.u8_in, if_pos, if_neg, Bool.and_eq_true, decide_eq_true_eq]
  obtain ⟨k, hk, hk8⟩ : ∃ k : Nat, min (max n 0) 8 = (k : Int) ∧ k ≤ 8 := ⟨(min (max n 0) 8).toNat, by omega, by omega⟩
  rw [hk] at h ⊢
  rw [Int.toNat_natCast] at h
  refine next_spec (by omega) hs hp ?_
  have hl := take_len s k
  generalize s.take k = r at h hl ⊢
  obtain ⟨l, s1⟩ := r
  simp only at h hl ⊢
  generalize H.set p _ = H1 at h ⊢
  simp only [go_sem, ↓reduceIte, reduceCtorEq, Nat.reduceLT, Nat.reduceEqDiff, Nat.reduceBEq, Nat.reduceAdd, Nat.reduceMul, Nat.reduceSub, Nat.reduceLeDiff, Int.reduceNeg, Int.reduceLT, Int.reduceLE, Int.reduceEq, Int.reduceAdd, Int.reduceToNat]
  ((try simp only [go_sem, ↓reduceIte, reduceCtorEq, Nat.reduceLT, Nat.reduceEqDiff, Nat.reduceBEq, Nat.reduceAdd, Nat.reduceMul, Nat.reduceSub, Nat.reduceLeDiff, Int.reduceNeg, Int.reduceLT, Int.reduceLE, Int.reduceEq, Int.reduceAdd, Int.reduceToNat]); repeat ((first | refine AW.seq ?_ | refine AW.region env_ok ?_ | refine AW.region envR_ok ?_ | refine AW.skip ?_ | refine AW.block ?_ | refine AW.exit ?_ | refine AW.ret ?_ | (refine AW.cond (b := true) ?_ ?_; simp only [ev, upd, ↓reduceIte, Nat.reduceEqDiff]; rw [if_pos rfl]) | (refine AW.cond (b := false) ?_ ?_; simp only [ev, upd, ↓reduceIte, Nat.reduceEqDiff]; rw [if_neg Bool.false_ne_true]) | fail) <;> try simp only [go_sem, ↓reduceIte, reduceCtorEq, Nat.reduceLT, Nat.reduceEqDiff, Nat.reduceBEq, Nat.reduceAdd, Nat.reduceMul, Nat.reduceSub, Nat.reduceLeDiff, Int.reduceNeg, Int.reduceLT, Int.reduceLE, Int.reduceEq, Int.reduceAdd, Int.reduceToNat]))
  refine AW.loop (fun st => ∃ i : Nat, i ≤ l.length ∧ st.σ 14 = .int .i64 i ∧ st.σ 13 = .int .i64 l.length ∧ st.σ 12 = .sl (bA l) none () ∧ st.σ 5 = .int .u64 (le (l.take i) : Nat) ∧ st.H = H1)
    (fun st => match st.σ 14 with | .int _ i => l.length - i.toNat | _ => 0) ⟨0, by omega, rfl, rfl, rfl, rfl, rfl⟩ ?_
  rintro ⟨σ, H2⟩ ⟨i, hi, h14, h13, h12, h5, rfl⟩
  simp only at h14 h13 h12 h5
  ((try simp only [go_sem, ↓reduceIte, reduceCtorEq, Nat.reduceLT, Nat.reduceEqDiff, Nat.reduceBEq, Nat.reduceAdd, Nat.reduceMul, Nat.reduceSub, Nat.reduceLeDiff, Int.reduceNeg, Int.reduceLT, Int.reduceLE, Int.reduceEq, Int.reduceAdd, Int.reduceToNat, h14, h13, h12, h5]); repeat ((first | refine AW.seq ?_ | refine AW.region env_ok ?_ | refine AW.region envR_ok ?_ | refine AW.skip ?_ | refine AW.block ?_ | refine AW.exit ?_ | refine AW.ret ?_ | (refine AW.cond (b := true) ?_ ?_; simp only [ev, upd, ↓reduceIte, Nat.reduceEqDiff]; rw [if_pos rfl]) | (refine AW.cond (b := false) ?_ ?_; simp only [ev, upd, ↓reduceIte, Nat.reduceEqDiff]; rw [if_neg Bool.false_ne_true]) | fail) <;> try simp only [go_sem, ↓reduceIte, reduceCtorEq, Nat.reduceLT, Nat.reduceEqDiff, Nat.reduceBEq, Nat.reduceAdd, Nat.reduceMul, Nat.reduceSub, Nat.reduceLeDiff, Int.reduceNeg, Int.reduceLT, Int.reduceLE, Int.reduceEq, Int.reduceAdd, Int.reduceToNat, h14, h13, h12, h5]))
  (refine AW.cond rfl ?_; (try simp only [Bool.not_eq_true', decide_eq_false_iff_not, decide_eq_true_eq, Bool.false_eq_true, Bool.and_eq_true, Bool.or_eq_true, if_true, if_false]); split <;> rename_i e)
  · have hi' : i < l.length := by omega
    have hx := l[i].toNat_lt
    have hle := le_lt (l.take i)
    rw [List.length_take, Nat.min_eq_left hi] at hle
    have hp8 : 256 ^ i = 2 ^ (8 * i) := by rw [show (256 : Nat) = 2 ^ 8 from rfl, ← Nat.pow_mul]
    have hpw : 2 ^ (8 * i) ≤ 2 ^ 56 := Nat.pow_le_pow_right (by omega) (by omega)
    have hmul : l[i].toNat * 2 ^ (8 * i) ≤ 255 * 2 ^ 56 := Nat.mul_le_mul (by omega) hpw
    have e25 : IntKind.u64.wrap ((l[i].toNat : Int) * 2 ^ min (8 * (i : Int)).toNat 64) = ((l[i].toNat * 2 ^ (8 * i) : Nat) : Int) := by
      rw [show (8 * (i : Int)).toNat = 8 * i by omega, Nat.min_eq_left (by omega), show (l[i].toNat : Int) * 2 ^ (8 * i) = ((l[i].toNat * 2 ^ (8 * i) : Nat) : Int) by simp, IntWalk.u64_in _ (by omega)]
    have e26 : bitsI .or .u64 (le (l.take i) : Nat) (l[i].toNat * 2 ^ (8 * i) : Nat) = (le (l.take (i + 1)) : Nat) := by
      rw [bits_or (by omega) (by omega), or_high (by omega), List.take_succ_eq_append_getElem hi', le_snoc, List.length_take, Nat.min_eq_left hi]
    ((try simp (disch := omega) only [go_sem, ↓reduceIte, reduceCtorEq, Nat.reduceLT, Nat.reduceEqDiff, Nat.reduceBEq, Nat.reduceAdd, Nat.reduceMul, Nat.reduceSub, Nat.reduceLeDiff, Int.reduceNeg, Int.reduceLT, Int.reduceLE, Int.reduceEq, Int.reduceAdd, Int.reduceToNat, IntWalk.i64_in, IntWalk.u64_in, IntWalk.u8_in, if_pos, if_neg, Bool.and_eq_true, decide_eq_true_eq, h14, h13, h12, h5, bA_at l i _ hi', byteA, e25, e26]); repeat ((first | refine AW.seq ?_ | refine AW.region env_ok ?_ | refine AW.region envR_ok ?_ | refine AW.skip ?_ | refine AW.block ?_ | refine AW.exit ?_ | refine AW.ret ?_ | (refine AW.cond (b := true) ?_ ?_; simp only [ev, upd, ↓reduceIte, Nat.reduceEqDiff]; rw [if_pos rfl]) | (refine AW.cond (b := false) ?_ ?_; simp only [ev, upd, ↓reduceIte, Nat.reduceEqDiff]; rw [if_neg Bool.false_ne_true]) | fail) <;> try simp (disch := omega) only [go_sem, ↓reduceIte, reduceCtorEq, Nat.reduceLT, Nat.reduceEqDiff, Nat.reduceBEq, Nat.reduceAdd, Nat.reduceMul, Nat.reduceSub, Nat.reduceLeDiff, Int.reduceNeg, Int.reduceLT, Int.reduceLE, Int.reduceEq, Int.reduceAdd, Int.reduceToNat, IntWalk.i64_in, IntWalk.u64_in, IntWalk.u8_in, if_pos, if_neg, Bool.and_eq_true, decide_eq_true_eq, h14, h13, h12, h5, bA_at l i _ hi', byteA, e25, e26]))
    exact ⟨⟨i + 1, hi', rfl, rfl⟩, by omega⟩
  · ((try simp only [go_sem, ↓reduceIte, reduceCtorEq, Nat.reduceLT, Nat.reduceEqDiff, Nat.reduceBEq, Nat.reduceAdd, Nat.reduceMul, Nat.reduceSub, Nat.reduceLeDiff, Int.reduceNeg, Int.reduceLT, Int.reduceLE, Int.reduceEq, Int.reduceAdd, Int.reduceToNat, h14, h13, h12, h5]); repeat ((first | refine AW.seq ?_ | refine AW.region env_ok ?_ | refine AW.region envR_ok ?_ | refine AW.skip ?_ | refine AW.block ?_ | refine AW.exit ?_ | refine AW.ret ?_ | (refine AW.cond (b := true) ?_ ?_; simp only [ev, upd, ↓reduceIte, Nat.reduceEqDiff]; rw [if_pos rfl]) | (refine AW.cond (b := false) ?_ ?_; simp only [ev, upd, ↓reduceIte, Nat.reduceEqDiff]; rw [if_neg Bool.false_ne_true]) | fail) <;> try simp only [go_sem, ↓reduceIte, reduceCtorEq, Nat.reduceLT, Nat.reduceEqDiff, Nat.reduceBEq, Nat.reduceAdd, Nat.reduceMul, Nat.reduceSub, Nat.reduceLeDiff, Int.reduceNeg, Int.reduceLT, Int.reduceLE, Int.reduceEq, Int.reduceAdd, Int.reduceToNat, h14, h13, h12, h5]))
    rw [List.take_of_length_le (by omega)]
    exact .inl h
theorem U8_spec (hs : s.Ok) (hp : H[p]? = some (.cells s.cur)) (h : Q (.int .u64 (le (s.take 1).1 : Nat)) (H.set p (.cells (s.take 1).2.cur))) : AC Try.prog 20 [.ptr (some (p, 0))] H Q := by
  refine AC.enter (E := env Try.prog 5 (fun _ => .copy) (fun _ => false)) env_ok Try.func20 rfl rfl rfl (by simp only [List.length_cons, List.length_nil]; exact of_decide_eq_true rfl) ?_
  ((try simp only [go_sem, ↓reduceIte, reduceCtorEq, Nat.reduceLT, Nat.reduceEqDiff, Nat.reduceBEq, Nat.reduceAdd, Nat.reduceMul, Nat.reduceSub, Nat.reduceLeDiff, Int.reduceNeg, Int.reduceLT, Int.reduceLE, Int.reduceEq, Int.reduceAdd, Int.reduceToNat]); repeat ((first | refine AW.seq ?_ | refine AW.region env_ok ?_ | refine AW.region envR_ok ?_ | refine AW.skip ?_ | refine AW.block ?_ | refine AW.exit ?_ | refine AW.ret ?_ | (refine AW.cond (b := true) ?_ ?_; simp only [ev, upd, ↓reduceIte, Nat.reduceEqDiff]; rw [if_pos rfl]) | (refine AW.cond (b := false) ?_ ?_; simp only [ev, upd, ↓reduceIte, Nat.reduceEqDiff]; rw [if_neg Bool.false_ne_true]) | fail) <;> try simp only [go_sem, ↓reduceIte, reduceCtorEq, Nat.reduceLT, Nat.reduceEqDiff, Nat.reduceBEq, Nat.reduceAdd, Nat.reduceMul, Nat.reduceSub, Nat.reduceLeDiff, Int.reduceNeg, Int.reduceLT, Int.reduceLE, Int.reduceEq, Int.reduceAdd, Int.reduceToNat]))
  refine Uint_spec hs hp ?_
  simp only [go_sem, ↓reduceIte, reduceCtorEq, Nat.reduceLT, Nat.reduceEqDiff, Nat.reduceBEq, Nat.reduceAdd, Nat.reduceMul, Nat.reduceSub, Nat.reduceLeDiff, Int.reduceNeg, Int.reduceLT, Int.reduceLE, Int.reduceEq, Int.reduceAdd, Int.reduceToNat]
  ((try simp only [go_sem, ↓reduceIte, reduceCtorEq, Nat.reduceLT, Nat.reduceEqDiff, Nat.reduceBEq, Nat.reduceAdd, Nat.reduceMul, Nat.reduceSub, Nat.reduceLeDiff, Int.reduceNeg, Int.reduceLT, Int.reduceLE, Int.reduceEq, Int.reduceAdd, Int.reduceToNat]); repeat ((first | refine AW.seq ?_ | refine AW.region env_ok ?_ | refine AW.region envR_ok ?_ | refine AW.skip ?_ | refine AW.block ?_ | refine AW.exit ?_ | refine AW.ret ?_ | (refine AW.cond (b := true) ?_ ?_; simp only [ev, upd, ↓reduceIte, Nat.reduceEqDiff]; rw [if_pos rfl]) | (refine AW.cond (b := false) ?_ ?_; simp only [ev, upd, ↓reduceIte, Nat.reduceEqDiff]; rw [if_neg Bool.false_ne_true]) | fail) <;> try simp only [go_sem, ↓reduceIte, reduceCtorEq, Nat.reduceLT, Nat.reduceEqDiff, Nat.reduceBEq, Nat.reduceAdd, Nat.reduceMul, Nat.reduceSub, Nat.reduceLeDiff, Int.reduceNeg, Int.reduceLT, Int.reduceLE, Int.reduceEq, Int.reduceAdd, Int.reduceToNat]))
  exact .inl h
theorem U16_spec (hs : s.Ok) (hp : H[p]? = some (.cells s.cur)) (h : Q (.int .u64 (le (s.take 2).1 : Nat)) (H.set p (.cells (s.take 2).2.cur))) : AC Try.prog 40 [.ptr (some (p, 0))] H Q := by
  refine AC.enter (E := env Try.prog 5 (fun _ => .copy) (fun _ => false)) env_ok Try.func40 rfl rfl rfl (by simp only [List.length_cons, List.length_nil]; exact of_decide_eq_true rfl) ?_
  ((try simp only [go_sem, ↓reduceIte, reduceCtorEq, Nat.reduceLT, Nat.reduceEqDiff, Nat.reduceBEq, Nat.reduceAdd, Nat.reduceMul, Nat.reduceSub, Nat.reduceLeDiff, Int.reduceNeg, Int.reduceLT, Int.reduceLE, Int.reduceEq, Int.reduceAdd, Int.reduceToNat]); repeat ((first | refine AW.seq ?_ | refine AW.region env_ok ?_ | refine AW.region envR_ok ?_ | refine AW.skip ?_ | refine AW.block ?_ | refine AW.exit ?_ | refine AW.ret ?_ | (refine AW.cond (b := true) ?_ ?_; simp only [ev, upd, ↓reduceIte, Nat.reduceEqDiff]; rw [if_pos rfl]) | (refine AW.cond (b := false) ?_ ?_; simp only [ev, upd, ↓reduceIte, Nat.reduceEqDiff]; rw [if_neg Bool.false_ne_true]) | fail) <;> try simp only [go_sem, ↓reduceIte, reduceCtorEq, Nat.reduceLT, Nat.reduceEqDiff, Nat.reduceBEq, Nat.reduceAdd, Nat.reduceMul, Nat.reduceSub, Nat.reduceLeDiff, Int.reduceNeg, Int.reduceLT, Int.reduceLE, Int.reduceEq, Int.reduceAdd, Int.reduceToNat]))
  refine Uint_spec hs hp ?_
  simp only [go_sem, ↓reduceIte, reduceCtorEq, Nat.reduceLT, Nat.reduceEqDiff, Nat.reduceBEq, Nat.reduceAdd, Nat.reduceMul, Nat.reduceSub, Nat.reduceLeDiff, Int.reduceNeg, Int.reduceLT, Int.reduceLE, Int.reduceEq, Int.reduceAdd, Int.reduceToNat]
  ((try simp only [go_sem, ↓reduceIte, reduceCtorEq, Nat.reduceLT, Nat.reduceEqDiff, Nat.reduceBEq, Nat.reduceAdd, Nat.reduceMul, Nat.reduceSub, Nat.reduceLeDiff, Int.reduceNeg, Int.reduceLT, Int.reduceLE, Int.reduceEq, Int.reduceAdd, Int.reduceToNat]); repeat ((first | refine AW.seq ?_ | refine AW.region env_ok ?_ | refine AW.region envR_ok ?_ | refine AW.skip ?_ | refine AW.block ?_ | refine AW.exit ?_ | refine AW.ret ?_ | (refine AW.cond (b := true) ?_ ?_; simp only [ev, upd, ↓reduceIte, Nat.reduceEqDiff]; rw [if_pos rfl]) | (refine AW.cond (b := false) ?_ ?_; simp only [ev, upd, ↓reduceIte, Nat.reduceEqDiff]; rw [if_neg Bool.false_ne_true]) | fail) <;> try simp only [go_sem, ↓reduceIte, reduceCtorEq, Nat.reduceLT, Nat.reduceEqDiff, Nat.reduceBEq, Nat.reduceAdd, Nat.reduceMul, Nat.reduceSub, Nat.reduceLeDiff, Int.reduceNeg, Int.reduceLT, Int.reduceLE, Int.reduceEq, Int.reduceAdd, Int.reduceToNat]))
  exact .inl h
theorem U64_spec (hs : s.Ok) (hp : H[p]? = some (.cells s.cur)) (h : Q (.int .u64 (le (s.take 8).1 : Nat)) (H.set p (.cells (s.take 8).2.cur))) : AC Try.prog 56 [.ptr (some (p, 0))] H Q := by
  refine AC.enter (E := env Try.prog 5 (fun _ => .copy) (fun _ => false)) env_ok Try.func56 rfl rfl rfl (by simp only [List.length_cons, List.length_nil]; exact of_decide_eq_true rfl) ?_
  ((try simp only [go_sem, ↓reduceIte, reduceCtorEq, Nat.reduceLT, Nat.reduceEqDiff, Nat.reduceBEq, Nat.reduceAdd, Nat.reduceMul, Nat.reduceSub, Nat.reduceLeDiff, Int.reduceNeg, Int.reduceLT, Int.reduceLE, Int.reduceEq, Int.reduceAdd, Int.reduceToNat]); repeat ((first | refine AW.seq ?_ | refine AW.region env_ok ?_ | refine AW.region envR_ok ?_ | refine AW.skip ?_ | refine AW.block ?_ | refine AW.exit ?_ | refine AW.ret ?_ | (refine AW.cond (b := true) ?_ ?_; simp only [ev, upd, ↓reduceIte, Nat.reduceEqDiff]; rw [if_pos rfl]) | (refine AW.cond (b := false) ?_ ?_; simp only [ev, upd, ↓reduceIte, Nat.reduceEqDiff]; rw [if_neg Bool.false_ne_true]) | fail) <;> try simp only [go_sem, ↓reduceIte, reduceCtorEq, Nat.reduceLT, Nat.reduceEqDiff, Nat.reduceBEq, Nat.reduceAdd, Nat.reduceMul, Nat.reduceSub, Nat.reduceLeDiff, Int.reduceNeg, Int.reduceLT, Int.reduceLE, Int.reduceEq, Int.reduceAdd, Int.reduceToNat]))
  refine Uint_spec hs hp ?_
  simp only [go_sem, ↓reduceIte, reduceCtorEq, Nat.reduceLT, Nat.reduceEqDiff, Nat.reduceBEq, Nat.reduceAdd, Nat.reduceMul, Nat.reduceSub, Nat.reduceLeDiff, Int.reduceNeg, Int.reduceLT, Int.reduceLE, Int.reduceEq, Int.reduceAdd, Int.reduceToNat]
  ((try simp only [go_sem, ↓reduceIte, reduceCtorEq, Nat.reduceLT, Nat.reduceEqDiff, Nat.reduceBEq, Nat.reduceAdd, Nat.reduceMul, Nat.reduceSub, Nat.reduceLeDiff, Int.reduceNeg, Int.reduceLT, Int.reduceLE, Int.reduceEq, Int.reduceAdd, Int.reduceToNat]); repeat ((first | refine AW.seq ?_ | refine AW.region env_ok ?_ | refine AW.region envR_ok ?_ | refine AW.skip ?_ | refine AW.block ?_ | refine AW.exit ?_ | refine AW.ret ?_ | (refine AW.cond (b := true) ?_ ?_; simp only [ev, upd, ↓reduceIte, Nat.reduceEqDiff]; rw [if_pos rfl]) | (refine AW.cond (b := false) ?_ ?_; simp only [ev, upd, ↓reduceIte, Nat.reduceEqDiff]; rw [if_neg Bool.false_ne_true]) | fail) <;> try simp only [go_sem, ↓reduceIte, reduceCtorEq, Nat.reduceLT, Nat.reduceEqDiff, Nat.reduceBEq, Nat.reduceAdd, Nat.reduceMul, Nat.reduceSub, Nat.reduceLeDiff, Int.reduceNeg, Int.reduceLT, Int.reduceLE, Int.reduceEq, Int.reduceAdd, Int.reduceToNat]))
  exact .inl h

theorem New_spec {b : List UInt8} (hb : b.length < 140737488355328) (h : Q (.ptr (some (H.length, 0))) (H ++ [.cells (CS.mk b 0 0).cur])) : AC Try.prog 18 [.sl (bA b) none ()] H Q := by
  refine AC.enter (E := env Try.prog 8 (fun _ => .copy) (fun t => t == 5)) env_ok Try.func18 rfl rfl rfl (by simp only [List.length_cons, List.length_nil]; exact of_decide_eq_true rfl) ?_
  ((try simp (disch := omega) only [go_sem, ↓reduceIte, reduceCtorEq, Nat.reduceLT, Nat.reduceEqDiff, Nat.reduceBEq, Nat.reduceAdd, Nat.reduceMul, Nat.reduceSub, Nat.reduceLeDiff, Int.reduceNeg, Int.reduceLT, Int.reduceLE, Int.reduceEq, Int.reduceAdd, Int.reduceToNat, IntWalk.i64_in, IntWalk.u64_in, IntWalk.u8_in, if_pos, if_neg, Bool.and_eq_true, decide_eq_true_eq]); repeat ((first | refine AW.seq ?_ | refine AW.region env_ok ?_ | refine AW.region envR_ok ?_ | refine AW.skip ?_ | refine AW.block ?_ | refine AW.exit ?_ | refine AW.ret ?_ | (refine AW.cond (b := true) ?_ ?_; simp only [ev, upd, ↓reduceIte, Nat.reduceEqDiff]; rw [if_pos rfl]) | (refine AW.cond (b := false) ?_ ?_; simp only [ev, upd, ↓reduceIte, Nat.reduceEqDiff]; rw [if_neg Bool.false_ne_true]) | fail) <;> try simp (disch := omega) only [go_sem, ↓reduceIte, reduceCtorEq, Nat.reduceLT, Nat.reduceEqDiff, Nat.reduceBEq, Nat.reduceAdd, Nat.reduceMul, Nat.reduceSub, Nat.reduceLeDiff, Int.reduceNeg, Int.reduceLT, Int.reduceLE, Int.reduceEq, Int.reduceAdd, Int.reduceToNat, IntWalk.i64_in, IntWalk.u64_in, IntWalk.u8_in, if_pos, if_neg, Bool.and_eq_true, decide_eq_true_eq]))
  exact .inl h
end
end Go.Ab
end

section
/- Package sindriref01: contracts. -/
namespace Go.Ab
open V Go.Proofs
set_option maxHeartbeats 4000000
set_option maxRecDepth 10000
set_option linter.unusedSimpArgs false
set_option linter.unusedVariables false

/-- The cells of a cursor of the document. -/
def CS.ref (s : CS) : List A := [.sl (bA s.b) none (), .int .i64 s.pos, .int .i64 s.err]
theorem ref_len (s : CS) : s.ref.length = 3 := rfl
theorem ref_0 (s : CS) : s.ref[0]? = some (.sl (bA s.b) none ()) := rfl
theorem ref_1 (s : CS) : s.ref[1]? = some (.int .i64 s.pos) := rfl
theorem ref_2 (s : CS) : s.ref[2]? = some (.int .i64 s.err) := rfl
theorem ref_p1 (s : CS) (a b : Nat) : s.ref.take 1 ++ [.int .i64 ((a : Int) + (b : Int))] ++ s.ref.drop 2 = ({ s with pos := a + b } : CS).ref := rfl
theorem ref_p2 (s : CS) (e : Int) : s.ref.take 2 ++ [.int .i64 e] ++ s.ref.drop 3 = ({ s with err := e } : CS).ref := rfl
attribute [go_sem] ref_len ref_0 ref_1 ref_2 ref_p1 ref_p2
section
variable {p : Nat} {s : CS} {H : Heap} {Q : A → Heap → Prop}

theorem rsize_spec {n : Int} (h : Q (.int .i64 (min (max n 0) 8)) H) : AC Try.prog 60 [.int .i64 n] H Q := by
  refine AC.enter (E := env Try.prog 8 (fun _ => .copy) (fun _ => false)) env_ok Try.func60 rfl rfl rfl (by simp only [List.length_cons, List.length_nil]; exact of_decide_eq_true rfl) ?_
  ((try simp only [go_sem, ↓reduceIte, reduceCtorEq, Nat.reduceLT, Nat.reduceEqDiff, Nat.reduceBEq, Nat.reduceAdd, Nat.reduceMul, Nat.reduceSub, Nat.reduceLeDiff, Int.reduceNeg, Int.reduceLT, Int.reduceLE, Int.reduceEq, Int.reduceAdd, Int.reduceToNat]); repeat ((first | refine AW.seq ?_ | refine AW.region env_ok ?_ | refine AW.region envR_ok ?_ | refine AW.skip ?_ | refine AW.block ?_ | refine AW.exit ?_ | refine AW.ret ?_ | (refine AW.cond (b := true) ?_ ?_; simp only [ev, upd, ↓reduceIte, Nat.reduceEqDiff]; rw [if_pos rfl]) | (refine AW.cond (b := false) ?_ ?_; simp only [ev, upd, ↓reduceIte, Nat.reduceEqDiff]; rw [if_neg Bool.false_ne_true]) | fail) <;> try simp only [go_sem, ↓reduceIte, reduceCtorEq, Nat.reduceLT, Nat.reduceEqDiff, Nat.reduceBEq, Nat.reduceAdd, Nat.reduceMul, Nat.reduceSub, Nat.reduceLeDiff, Int.reduceNeg, Int.reduceLT, Int.reduceLE, Int.reduceEq, Int.reduceAdd, Int.reduceToNat]))
  (refine AW.cond rfl ?_; (try simp only [Bool.not_eq_true', decide_eq_false_iff_not, decide_eq_true_eq, Bool.false_eq_true, Bool.and_eq_true, Bool.or_eq_true, if_true, if_false]); split <;> rename_i e)
  · ((try simp only [go_sem, ↓reduceIte, reduceCtorEq, Nat.reduceLT, Nat.reduceEqDiff, Nat.reduceBEq, Nat.reduceAdd, Nat.reduceMul, Nat.reduceSub, Nat.reduceLeDiff, Int.reduceNeg, Int.reduceLT, Int.reduceLE, Int.reduceEq, Int.reduceAdd, Int.reduceToNat]); repeat ((first | refine AW.seq ?_ | refine AW.region env_ok ?_ | refine AW.region envR_ok ?_ | refine AW.skip ?_ | refine AW.block ?_ | refine AW.exit ?_ | refine AW.ret ?_ | (refine AW.cond (b := true) ?_ ?_; simp only [ev, upd, ↓reduceIte, Nat.reduceEqDiff]; rw [if_pos rfl]) | (refine AW.cond (b := false) ?_ ?_; simp only [ev, upd, ↓reduceIte, Nat.reduceEqDiff]; rw [if_neg Bool.false_ne_true]) | fail) <;> try simp only [go_sem, ↓reduceIte, reduceCtorEq, Nat.reduceLT, Nat.reduceEqDiff, Nat.reduceBEq, Nat.reduceAdd, Nat.reduceMul, Nat.reduceSub, Nat.reduceLeDiff, Int.reduceNeg, Int.reduceLT, Int.reduceLE, Int.reduceEq, Int.reduceAdd, Int.reduceToNat]))
    rw [show min (max n 0) 8 = 0 by omega] at h
    exact .inl h
  · ((try simp only [go_sem, ↓reduceIte, reduceCtorEq, Nat.reduceLT, Nat.reduceEqDiff, Nat.reduceBEq, Nat.reduceAdd, Nat.reduceMul, Nat.reduceSub, Nat.reduceLeDiff, Int.reduceNeg, Int.reduceLT, Int.reduceLE, Int.reduceEq, Int.reduceAdd, Int.reduceToNat]); repeat ((first | refine AW.seq ?_ | refine AW.region env_ok ?_ | refine AW.region envR_ok ?_ | refine AW.skip ?_ | refine AW.block ?_ | refine AW.exit ?_ | refine AW.ret ?_ | (refine AW.cond (b := true) ?_ ?_; simp only [ev, upd, ↓reduceIte, Nat.reduceEqDiff]; rw [if_pos rfl]) | (refine AW.cond (b := false) ?_ ?_; simp only [ev, upd, ↓reduceIte, Nat.reduceEqDiff]; rw [if_neg Bool.false_ne_true]) | fail) <;> try simp only [go_sem, ↓reduceIte, reduceCtorEq, Nat.reduceLT, Nat.reduceEqDiff, Nat.reduceBEq, Nat.reduceAdd, Nat.reduceMul, Nat.reduceSub, Nat.reduceLeDiff, Int.reduceNeg, Int.reduceLT, Int.reduceLE, Int.reduceEq, Int.reduceAdd, Int.reduceToNat]))
    (refine AW.cond rfl ?_; (try simp only [Bool.not_eq_true', decide_eq_false_iff_not, decide_eq_true_eq, Bool.false_eq_true, Bool.and_eq_true, Bool.or_eq_true, if_true, if_false]); split <;> rename_i e2)
    · ((try simp only [go_sem, ↓reduceIte, reduceCtorEq, Nat.reduceLT, Nat.reduceEqDiff, Nat.reduceBEq, Nat.reduceAdd, Nat.reduceMul, Nat.reduceSub, Nat.reduceLeDiff, Int.reduceNeg, Int.reduceLT, Int.reduceLE, Int.reduceEq, Int.reduceAdd, Int.reduceToNat]); repeat ((first | refine AW.seq ?_ | refine AW.region env_ok ?_ | refine AW.region envR_ok ?_ | refine AW.skip ?_ | refine AW.block ?_ | refine AW.exit ?_ | refine AW.ret ?_ | (refine AW.cond (b := true) ?_ ?_; simp only [ev, upd, ↓reduceIte, Nat.reduceEqDiff]; rw [if_pos rfl]) | (refine AW.cond (b := false) ?_ ?_; simp only [ev, upd, ↓reduceIte, Nat.reduceEqDiff]; rw [if_neg Bool.false_ne_true]) | fail) <;> try simp only [go_sem, ↓reduceIte, reduceCtorEq, Nat.reduceLT, Nat.reduceEqDiff, Nat.reduceBEq, Nat.reduceAdd, Nat.reduceMul, Nat.reduceSub, Nat.reduceLeDiff, Int.reduceNeg, Int.reduceLT, Int.reduceLE, Int.reduceEq, Int.reduceAdd, Int.reduceToNat]))
      rw [show min (max n 0) 8 = 8 by omega] at h
      exact .inl h
    · ((try simp only [go_sem, ↓reduceIte, reduceCtorEq, Nat.reduceLT, Nat.reduceEqDiff, Nat.reduceBEq, Nat.reduceAdd, Nat.reduceMul, Nat.reduceSub, Nat.reduceLeDiff, Int.reduceNeg, Int.reduceLT, Int.reduceLE, Int.reduceEq, Int.reduceAdd, Int.reduceToNat]); repeat ((first | refine AW.seq ?_ | refine AW.region env_ok ?_ | refine AW.region envR_ok ?_ | refine AW.skip ?_ | refine AW.block ?_ | refine AW.exit ?_ | refine AW.ret ?_ | (refine AW.cond (b := true) ?_ ?_; simp only [ev, upd, ↓reduceIte, Nat.reduceEqDiff]; rw [if_pos rfl]) | (refine AW.cond (b := false) ?_ ?_; simp only [ev, upd, ↓reduceIte, Nat.reduceEqDiff]; rw [if_neg Bool.false_ne_true]) | fail) <;> try simp only [go_sem, ↓reduceIte, reduceCtorEq, Nat.reduceLT, Nat.reduceEqDiff, Nat.reduceBEq, Nat.reduceAdd, Nat.reduceMul, Nat.reduceSub, Nat.reduceLeDiff, Int.reduceNeg, Int.reduceLT, Int.reduceLE, Int.reduceEq, Int.reduceAdd, Int.reduceToNat]))
      rw [show min (max n 0) 8 = n by omega] at h
      exact .inl h

theorem rLeft_spec (hs : s.Ok) (hp : H[p]? = some (.cells s.ref)) (h : Q (.int .i64 s.left) H) : AC Try.prog 61 [.ptr (some (p, 0))] H Q := by
  obtain ⟨o1, o2, o3, o4⟩ := hs
  refine AC.enter (E := env Try.prog 18 (fun _ => .copy) (fun _ => false)) env_ok Try.func61 rfl rfl rfl (by simp only [List.length_cons, List.length_nil]; exact of_decide_eq_true rfl) ?_
  ((try simp only [go_sem, ↓reduceIte, reduceCtorEq, Nat.reduceLT, Nat.reduceEqDiff, Nat.reduceBEq, Nat.reduceAdd, Nat.reduceMul, Nat.reduceSub, Nat.reduceLeDiff, Int.reduceNeg, Int.reduceLT, Int.reduceLE, Int.reduceEq, Int.reduceAdd, Int.reduceToNat, hp]); repeat ((first | refine AW.seq ?_ | refine AW.region env_ok ?_ | refine AW.region envR_ok ?_ | refine AW.skip ?_ | refine AW.block ?_ | refine AW.exit ?_ | refine AW.ret ?_ | (refine AW.cond (b := true) ?_ ?_; simp only [ev, upd, ↓reduceIte, Nat.reduceEqDiff]; rw [if_pos rfl]) | (refine AW.cond (b := false) ?_ ?_; simp only [ev, upd, ↓reduceIte, Nat.reduceEqDiff]; rw [if_neg Bool.false_ne_true]) | fail) <;> try simp only [go_sem, ↓reduceIte, reduceCtorEq, Nat.reduceLT, Nat.reduceEqDiff, Nat.reduceBEq, Nat.reduceAdd, Nat.reduceMul, Nat.reduceSub, Nat.reduceLeDiff, Int.reduceNeg, Int.reduceLT, Int.reduceLE, Int.reduceEq, Int.reduceAdd, Int.reduceToNat, hp]))
  (refine AW.cond rfl ?_; (try simp only [Bool.not_eq_true', decide_eq_false_iff_not, decide_eq_true_eq, Bool.false_eq_true, Bool.and_eq_true, Bool.or_eq_true, if_true, if_false]); split <;> rename_i e)
  · ((try simp only [go_sem, ↓reduceIte, reduceCtorEq, Nat.reduceLT, Nat.reduceEqDiff, Nat.reduceBEq, Nat.reduceAdd, Nat.reduceMul, Nat.reduceSub, Nat.reduceLeDiff, Int.reduceNeg, Int.reduceLT, Int.reduceLE, Int.reduceEq, Int.reduceAdd, Int.reduceToNat, hp]); repeat ((first | refine AW.seq ?_ | refine AW.region env_ok ?_ | refine AW.region envR_ok ?_ | refine AW.skip ?_ | refine AW.block ?_ | refine AW.exit ?_ | refine AW.ret ?_ | (refine AW.cond (b := true) ?_ ?_; simp only [ev, upd, ↓reduceIte, Nat.reduceEqDiff]; rw [if_pos rfl]) | (refine AW.cond (b := false) ?_ ?_; simp only [ev, upd, ↓reduceIte, Nat.reduceEqDiff]; rw [if_neg Bool.false_ne_true]) | fail) <;> try simp only [go_sem, ↓reduceIte, reduceCtorEq, Nat.reduceLT, Nat.reduceEqDiff, Nat.reduceBEq, Nat.reduceAdd, Nat.reduceMul, Nat.reduceSub, Nat.reduceLeDiff, Int.reduceNeg, Int.reduceLT, Int.reduceLE, Int.reduceEq, Int.reduceAdd, Int.reduceToNat, hp]))
    rw [CS.left, if_neg e] at h
    exact .inl h
  · ((try simp only [go_sem, ↓reduceIte, reduceCtorEq, Nat.reduceLT, Nat.reduceEqDiff, Nat.reduceBEq, Nat.reduceAdd, Nat.reduceMul, Nat.reduceSub, Nat.reduceLeDiff, Int.reduceNeg, Int.reduceLT, Int.reduceLE, Int.reduceEq, Int.reduceAdd, Int.reduceToNat, hp]); repeat ((first | refine AW.seq ?_ | refine AW.region env_ok ?_ | refine AW.region envR_ok ?_ | refine AW.skip ?_ | refine AW.block ?_ | refine AW.exit ?_ | refine AW.ret ?_ | (refine AW.cond (b := true) ?_ ?_; simp only [ev, upd, ↓reduceIte, Nat.reduceEqDiff]; rw [if_pos rfl]) | (refine AW.cond (b := false) ?_ ?_; simp only [ev, upd, ↓reduceIte, Nat.reduceEqDiff]; rw [if_neg Bool.false_ne_true]) | fail) <;> try simp only [go_sem, ↓reduceIte, reduceCtorEq, Nat.reduceLT, Nat.reduceEqDiff, Nat.reduceBEq, Nat.reduceAdd, Nat.reduceMul, Nat.reduceSub, Nat.reduceLeDiff, Int.reduceNeg, Int.reduceLT, Int.reduceLE, Int.reduceEq, Int.reduceAdd, Int.reduceToNat, hp]))
    refine AW.chain env_ok [0, 1, 3, 7, 15, 0, 32, 96, 224, 511, 1023] [0, 1, 2, 3, 4, 5, 6, 7, 8, 9] [(10, [], [])] mixed (by decide) ?_
    simp (disch := omega) only [go_sem, ↓reduceIte, reduceCtorEq, Nat.reduceLT, Nat.reduceEqDiff, Nat.reduceBEq, Nat.reduceAdd, Nat.reduceMul, Nat.reduceSub, Nat.reduceLeDiff, Int.reduceNeg, Int.reduceLT, Int.reduceLE, Int.reduceEq, Int.reduceAdd, Int.reduceToNat, IntWalk.i64_in, IntWalk.u64_in, IntWalk.u8_in, if_pos, if_neg, Bool.and_eq_true, decide_eq_true_eq, hp]
    ((try simp only [go_sem, ↓reduceIte, reduceCtorEq, Nat.reduceLT, Nat.reduceEqDiff, Nat.reduceBEq, Nat.reduceAdd, Nat.reduceMul, Nat.reduceSub, Nat.reduceLeDiff, Int.reduceNeg, Int.reduceLT, Int.reduceLE, Int.reduceEq, Int.reduceAdd, Int.reduceToNat]); repeat ((first | refine AW.seq ?_ | refine AW.region env_ok ?_ | refine AW.region envR_ok ?_ | refine AW.skip ?_ | refine AW.block ?_ | refine AW.exit ?_ | refine AW.ret ?_ | (refine AW.cond (b := true) ?_ ?_; simp only [ev, upd, ↓reduceIte, Nat.reduceEqDiff]; rw [if_pos rfl]) | (refine AW.cond (b := false) ?_ ?_; simp only [ev, upd, ↓reduceIte, Nat.reduceEqDiff]; rw [if_neg Bool.false_ne_true]) | fail) <;> try simp only [go_sem, ↓reduceIte, reduceCtorEq, Nat.reduceLT, Nat.reduceEqDiff, Nat.reduceBEq, Nat.reduceAdd, Nat.reduceMul, Nat.reduceSub, Nat.reduceLeDiff, Int.reduceNeg, Int.reduceLT, Int.reduceLE, Int.reduceEq, Int.reduceAdd, Int.reduceToNat]))
    rw [show ((s.left : Nat) : Int) = s.b.length - s.pos by rw [CS.left, if_pos (by omega)]; omega] at h
    exact .inl h

theorem rFail_spec {e : Int} (hp : H[p]? = some (.cells s.ref)) (h : Q (.tup []) (H.set p (.cells (s.fail e).ref))) : AC Try.prog 62 [.ptr (some (p, 0)), .int .i64 e] H Q := by
  refine AC.enter (E := env Try.prog 13 (fun _ => .copy) (fun _ => false)) env_ok Try.func62 rfl rfl rfl (by simp only [List.length_cons, List.length_nil]; exact of_decide_eq_true rfl) ?_
  ((try simp only [go_sem, ↓reduceIte, reduceCtorEq, Nat.reduceLT, Nat.reduceEqDiff, Nat.reduceBEq, Nat.reduceAdd, Nat.reduceMul, Nat.reduceSub, Nat.reduceLeDiff, Int.reduceNeg, Int.reduceLT, Int.reduceLE, Int.reduceEq, Int.reduceAdd, Int.reduceToNat, hp]); repeat ((first | refine AW.seq ?_ | refine AW.region env_ok ?_ | refine AW.region envR_ok ?_ | refine AW.skip ?_ | refine AW.block ?_ | refine AW.exit ?_ | refine AW.ret ?_ | (refine AW.cond (b := true) ?_ ?_; simp only [ev, upd, ↓reduceIte, Nat.reduceEqDiff]; rw [if_pos rfl]) | (refine AW.cond (b := false) ?_ ?_; simp only [ev, upd, ↓reduceIte, Nat.reduceEqDiff]; rw [if_neg Bool.false_ne_true]) | fail) <;> try simp only [go_sem, ↓reduceIte, reduceCtorEq, Nat.reduceLT, Nat.reduceEqDiff, Nat.reduceBEq, Nat.reduceAdd, Nat.reduceMul, Nat.reduceSub, Nat.reduceLeDiff, Int.reduceNeg, Int.reduceLT, Int.reduceLE, Int.reduceEq, Int.reduceAdd, Int.reduceToNat, hp]))
  (refine AW.cond rfl ?_; (try simp only [Bool.not_eq_true', decide_eq_false_iff_not, decide_eq_true_eq, Bool.false_eq_true, Bool.and_eq_true, Bool.or_eq_true, if_true, if_false]); split <;> rename_i e0)
  · ((try simp only [go_sem, ↓reduceIte, reduceCtorEq, Nat.reduceLT, Nat.reduceEqDiff, Nat.reduceBEq, Nat.reduceAdd, Nat.reduceMul, Nat.reduceSub, Nat.reduceLeDiff, Int.reduceNeg, Int.reduceLT, Int.reduceLE, Int.reduceEq, Int.reduceAdd, Int.reduceToNat, hp]); repeat ((first | refine AW.seq ?_ | refine AW.region env_ok ?_ | refine AW.region envR_ok ?_ | refine AW.skip ?_ | refine AW.block ?_ | refine AW.exit ?_ | refine AW.ret ?_ | (refine AW.cond (b := true) ?_ ?_; simp only [ev, upd, ↓reduceIte, Nat.reduceEqDiff]; rw [if_pos rfl]) | (refine AW.cond (b := false) ?_ ?_; simp only [ev, upd, ↓reduceIte, Nat.reduceEqDiff]; rw [if_neg Bool.false_ne_true]) | fail) <;> try simp only [go_sem, ↓reduceIte, reduceCtorEq, Nat.reduceLT, Nat.reduceEqDiff, Nat.reduceBEq, Nat.reduceAdd, Nat.reduceMul, Nat.reduceSub, Nat.reduceLeDiff, Int.reduceNeg, Int.reduceLT, Int.reduceLE, Int.reduceEq, Int.reduceAdd, Int.reduceToNat, hp]))
    rw [CS.fail, if_pos e0] at h
    exact .inl h
  · ((try simp only [go_sem, ↓reduceIte, reduceCtorEq, Nat.reduceLT, Nat.reduceEqDiff, Nat.reduceBEq, Nat.reduceAdd, Nat.reduceMul, Nat.reduceSub, Nat.reduceLeDiff, Int.reduceNeg, Int.reduceLT, Int.reduceLE, Int.reduceEq, Int.reduceAdd, Int.reduceToNat, hp]); repeat ((first | refine AW.seq ?_ | refine AW.region env_ok ?_ | refine AW.region envR_ok ?_ | refine AW.skip ?_ | refine AW.block ?_ | refine AW.exit ?_ | refine AW.ret ?_ | (refine AW.cond (b := true) ?_ ?_; simp only [ev, upd, ↓reduceIte, Nat.reduceEqDiff]; rw [if_pos rfl]) | (refine AW.cond (b := false) ?_ ?_; simp only [ev, upd, ↓reduceIte, Nat.reduceEqDiff]; rw [if_neg Bool.false_ne_true]) | fail) <;> try simp only [go_sem, ↓reduceIte, reduceCtorEq, Nat.reduceLT, Nat.reduceEqDiff, Nat.reduceBEq, Nat.reduceAdd, Nat.reduceMul, Nat.reduceSub, Nat.reduceLeDiff, Int.reduceNeg, Int.reduceLT, Int.reduceLE, Int.reduceEq, Int.reduceAdd, Int.reduceToNat, hp]))
    rw [CS.fail, if_neg e0, set_same hp] at h
    exact .inl h

theorem rEnd_spec (hs : s.Ok) (hp : H[p]? = some (.cells s.ref)) (h : Q (.int .i64 (if s.left > 0 then 2 else s.err)) H) : AC Try.prog 64 [.ptr (some (p, 0))] H Q := by
  refine AC.enter (E := env Try.prog 17 (fun _ => .copy) (fun _ => false)) env_ok Try.func64 rfl rfl rfl (by simp only [List.length_cons, List.length_nil]; exact of_decide_eq_true rfl) ?_
  by_cases e : s.err = 0
  · ((try simp only [go_sem, ↓reduceIte, reduceCtorEq, Nat.reduceLT, Nat.reduceEqDiff, Nat.reduceBEq, Nat.reduceAdd, Nat.reduceMul, Nat.reduceSub, Nat.reduceLeDiff, Int.reduceNeg, Int.reduceLT, Int.reduceLE, Int.reduceEq, Int.reduceAdd, Int.reduceToNat, hp, e]); repeat ((first | refine AW.seq ?_ | refine AW.region env_ok ?_ | refine AW.region envR_ok ?_ | refine AW.skip ?_ | refine AW.block ?_ | refine AW.exit ?_ | refine AW.ret ?_ | (refine AW.cond (b := true) ?_ ?_; simp only [ev, upd, ↓reduceIte, Nat.reduceEqDiff]; rw [if_pos rfl]) | (refine AW.cond (b := false) ?_ ?_; simp only [ev, upd, ↓reduceIte, Nat.reduceEqDiff]; rw [if_neg Bool.false_ne_true]) | fail) <;> try simp only [go_sem, ↓reduceIte, reduceCtorEq, Nat.reduceLT, Nat.reduceEqDiff, Nat.reduceBEq, Nat.reduceAdd, Nat.reduceMul, Nat.reduceSub, Nat.reduceLeDiff, Int.reduceNeg, Int.reduceLT, Int.reduceLE, Int.reduceEq, Int.reduceAdd, Int.reduceToNat, hp, e]))
    refine rLeft_spec hs hp ?_
    simp only [go_sem, ↓reduceIte, reduceCtorEq, Nat.reduceLT, Nat.reduceEqDiff, Nat.reduceBEq, Nat.reduceAdd, Nat.reduceMul, Nat.reduceSub, Nat.reduceLeDiff, Int.reduceNeg, Int.reduceLT, Int.reduceLE, Int.reduceEq, Int.reduceAdd, Int.reduceToNat]
    (refine AW.cond rfl ?_; (try simp only [Bool.not_eq_true', decide_eq_false_iff_not, decide_eq_true_eq, Bool.false_eq_true, Bool.and_eq_true, Bool.or_eq_true, if_true, if_false]); split <;> rename_i e2)
    · ((try simp only [go_sem, ↓reduceIte, reduceCtorEq, Nat.reduceLT, Nat.reduceEqDiff, Nat.reduceBEq, Nat.reduceAdd, Nat.reduceMul, Nat.reduceSub, Nat.reduceLeDiff, Int.reduceNeg, Int.reduceLT, Int.reduceLE, Int.reduceEq, Int.reduceAdd, Int.reduceToNat, hp]); repeat ((first | refine AW.seq ?_ | refine AW.region env_ok ?_ | refine AW.region envR_ok ?_ | refine AW.skip ?_ | refine AW.block ?_ | refine AW.exit ?_ | refine AW.ret ?_ | (refine AW.cond (b := true) ?_ ?_; simp only [ev, upd, ↓reduceIte, Nat.reduceEqDiff]; rw [if_pos rfl]) | (refine AW.cond (b := false) ?_ ?_; simp only [ev, upd, ↓reduceIte, Nat.reduceEqDiff]; rw [if_neg Bool.false_ne_true]) | fail) <;> try simp only [go_sem, ↓reduceIte, reduceCtorEq, Nat.reduceLT, Nat.reduceEqDiff, Nat.reduceBEq, Nat.reduceAdd, Nat.reduceMul, Nat.reduceSub, Nat.reduceLeDiff, Int.reduceNeg, Int.reduceLT, Int.reduceLE, Int.reduceEq, Int.reduceAdd, Int.reduceToNat, hp]))
      rw [if_pos (by omega)] at h
      exact .inl h
    · ((try simp only [go_sem, ↓reduceIte, reduceCtorEq, Nat.reduceLT, Nat.reduceEqDiff, Nat.reduceBEq, Nat.reduceAdd, Nat.reduceMul, Nat.reduceSub, Nat.reduceLeDiff, Int.reduceNeg, Int.reduceLT, Int.reduceLE, Int.reduceEq, Int.reduceAdd, Int.reduceToNat, hp]); repeat ((first | refine AW.seq ?_ | refine AW.region env_ok ?_ | refine AW.region envR_ok ?_ | refine AW.skip ?_ | refine AW.block ?_ | refine AW.exit ?_ | refine AW.ret ?_ | (refine AW.cond (b := true) ?_ ?_; simp only [ev, upd, ↓reduceIte, Nat.reduceEqDiff]; rw [if_pos rfl]) | (refine AW.cond (b := false) ?_ ?_; simp only [ev, upd, ↓reduceIte, Nat.reduceEqDiff]; rw [if_neg Bool.false_ne_true]) | fail) <;> try simp only [go_sem, ↓reduceIte, reduceCtorEq, Nat.reduceLT, Nat.reduceEqDiff, Nat.reduceBEq, Nat.reduceAdd, Nat.reduceMul, Nat.reduceSub, Nat.reduceLeDiff, Int.reduceNeg, Int.reduceLT, Int.reduceLE, Int.reduceEq, Int.reduceAdd, Int.reduceToNat, hp]))
      rw [if_neg (by omega)] at h
      exact .inl h
  · ((try simp only [go_sem, ↓reduceIte, reduceCtorEq, Nat.reduceLT, Nat.reduceEqDiff, Nat.reduceBEq, Nat.reduceAdd, Nat.reduceMul, Nat.reduceSub, Nat.reduceLeDiff, Int.reduceNeg, Int.reduceLT, Int.reduceLE, Int.reduceEq, Int.reduceAdd, Int.reduceToNat, hp, e]); repeat ((first | refine AW.seq ?_ | refine AW.region env_ok ?_ | refine AW.region envR_ok ?_ | refine AW.skip ?_ | refine AW.block ?_ | refine AW.exit ?_ | refine AW.ret ?_ | (refine AW.cond (b := true) ?_ ?_; simp only [ev, upd, ↓reduceIte, Nat.reduceEqDiff]; rw [if_pos rfl]) | (refine AW.cond (b := false) ?_ ?_; simp only [ev, upd, ↓reduceIte, Nat.reduceEqDiff]; rw [if_neg Bool.false_ne_true]) | fail) <;> try simp only [go_sem, ↓reduceIte, reduceCtorEq, Nat.reduceLT, Nat.reduceEqDiff, Nat.reduceBEq, Nat.reduceAdd, Nat.reduceMul, Nat.reduceSub, Nat.reduceLeDiff, Int.reduceNeg, Int.reduceLT, Int.reduceLE, Int.reduceEq, Int.reduceAdd, Int.reduceToNat, hp, e]))
    ((try simp only [go_sem, ↓reduceIte, reduceCtorEq, Nat.reduceLT, Nat.reduceEqDiff, Nat.reduceBEq, Nat.reduceAdd, Nat.reduceMul, Nat.reduceSub, Nat.reduceLeDiff, Int.reduceNeg, Int.reduceLT, Int.reduceLE, Int.reduceEq, Int.reduceAdd, Int.reduceToNat, hp]); repeat ((first | refine AW.seq ?_ | refine AW.region env_ok ?_ | refine AW.region envR_ok ?_ | refine AW.skip ?_ | refine AW.block ?_ | refine AW.exit ?_ | refine AW.ret ?_ | (refine AW.cond (b := true) ?_ ?_; simp only [ev, upd, ↓reduceIte, Nat.reduceEqDiff]; rw [if_pos rfl]) | (refine AW.cond (b := false) ?_ ?_; simp only [ev, upd, ↓reduceIte, Nat.reduceEqDiff]; rw [if_neg Bool.false_ne_true]) | fail) <;> try simp only [go_sem, ↓reduceIte, reduceCtorEq, Nat.reduceLT, Nat.reduceEqDiff, Nat.reduceBEq, Nat.reduceAdd, Nat.reduceMul, Nat.reduceSub, Nat.reduceLeDiff, Int.reduceNeg, Int.reduceLT, Int.reduceLE, Int.reduceEq, Int.reduceAdd, Int.reduceToNat, hp]))
    rw [if_neg (by rw [CS.left, if_neg e]; omega)] at h
    exact .inl h
end
end Go.Ab
end

section
/- Package sindriref01: numbers and bytes. -/
namespace Go.Ab
open V Go.Proofs
set_option maxHeartbeats 4000000
set_option maxRecDepth 10000
set_option linter.unusedSimpArgs false
set_option linter.unusedVariables false
section
variable {p : Nat} {s : CS} {H : Heap} {Q : A → Heap → Prop}

theorem set_set (H : Heap) (p : Nat) (x y : Ob Unit) : (H.set p x).set p y = H.set p y := List.set_set ..
theorem get_set {H : Heap} {p : Nat} {x y : Ob Unit} (h : H[p]? = some x) : (H.set p y)[p]? = some y := by
  rw [List.getElem?_set]
  have : p < H.length := by by_cases c : p < H.length; · exact c
                            · rw [List.getElem?_eq_none (by omega)] at h; simp at h
  simp [this]

theorem le_cons_drop (l : List UInt8) (i j : Nat) (hi : i < j) (hj : j ≤ l.length) : le ((l.take j).drop i) = (l[i]'(by omega)).toNat + 256 * le ((l.take j).drop (i + 1)) := by
  rw [List.drop_eq_getElem_cons (by rw [List.length_take]; omega)]
  simp only [le, List.getElem_take]

theorem rUint_spec {n : Int} (hs : s.Ok) (hp : H[p]? = some (.cells s.ref))
    (h : Q (.int .u64 (le (s.take (min (max n 0) 8).toNat).1 : Nat)) (H.set p (.cells (s.take (min (max n 0) 8).toNat).2.ref))) : AC Try.prog 42 [.ptr (some (p, 0)), .int .i64 n] H Q := by
  obtain ⟨o1, o2, o3, o4⟩ := id hs
  refine AC.enter (E := env Try.prog 60 (fun _ => .copy) (fun _ => false)) env_ok Try.func42 rfl rfl rfl (by simp only [List.length_cons, List.length_nil]; exact of_decide_eq_true rfl) ?_
  ((try simp only [go_sem, ↓reduceIte, reduceCtorEq, Nat.reduceLT, Nat.reduceEqDiff, Nat.reduceBEq, Nat.reduceAdd, Nat.reduceMul, Nat.reduceSub, Nat.reduceLeDiff, Int.reduceNeg, Int.reduceLT, Int.reduceLE, Int.reduceEq, Int.reduceAdd, Int.reduceToNat]); repeat ((first | refine AW.seq ?_ | refine AW.region env_ok ?_ | refine AW.region envR_ok ?_ | refine AW.skip ?_ | refine AW.block ?_ | refine AW.exit ?_ | refine AW.ret ?_ | (refine AW.cond (b := true) ?_ ?_; simp only [ev, upd, ↓reduceIte, Nat.reduceEqDiff]; rw [if_pos rfl]) | (refine AW.cond (b := false) ?_ ?_; simp only [ev, upd, ↓reduceIte, Nat.reduceEqDiff]; rw [if_neg Bool.false_ne_true]) | fail) <;> try simp only [go_sem, ↓reduceIte, reduceCtorEq, Nat.reduceLT, Nat.reduceEqDiff, Nat.reduceBEq, Nat.reduceAdd, Nat.reduceMul, Nat.reduceSub, Nat.reduceLeDiff, Int.reduceNeg, Int.reduceLT, Int.reduceLE, Int.reduceEq, Int.reduceAdd, Int.reduceToNat]))
  refine rsize_spec ?_
  obtain ⟨k, hk, hk8⟩ : ∃ k : Nat, min (max n 0) 8 = (k : Int) ∧ k ≤ 8 := ⟨(min (max n 0) 8).toNat, by omega, by omega⟩
  rw [hk] at h ⊢
  rw [Int.toNat_natCast] at h
  simp only [go_sem, ↓reduceIte, reduceCtorEq, Nat.reduceLT, Nat.reduceEqDiff, Nat.reduceBEq, Nat.reduceAdd, Nat.reduceMul, Nat.reduceSub, Nat.reduceLeDiff, Int.reduceNeg, Int.reduceLT, Int.reduceLE, Int.reduceEq, Int.reduceAdd, Int.reduceToNat]
  by_cases e : s.err = 0
  · ((try simp only [go_sem, ↓reduceIte, reduceCtorEq, Nat.reduceLT, Nat.reduceEqDiff, Nat.reduceBEq, Nat.reduceAdd, Nat.reduceMul, Nat.reduceSub, Nat.reduceLeDiff, Int.reduceNeg, Int.reduceLT, Int.reduceLE, Int.reduceEq, Int.reduceAdd, Int.reduceToNat, hp, e]); repeat ((first | refine AW.seq ?_ | refine AW.region env_ok ?_ | refine AW.region envR_ok ?_ | refine AW.skip ?_ | refine AW.block ?_ | refine AW.exit ?_ | refine AW.ret ?_ | (refine AW.cond (b := true) ?_ ?_; simp only [ev, upd, ↓reduceIte, Nat.reduceEqDiff]; rw [if_pos rfl]) | (refine AW.cond (b := false) ?_ ?_; simp only [ev, upd, ↓reduceIte, Nat.reduceEqDiff]; rw [if_neg Bool.false_ne_true]) | fail) <;> try simp only [go_sem, ↓reduceIte, reduceCtorEq, Nat.reduceLT, Nat.reduceEqDiff, Nat.reduceBEq, Nat.reduceAdd, Nat.reduceMul, Nat.reduceSub, Nat.reduceLeDiff, Int.reduceNeg, Int.reduceLT, Int.reduceLE, Int.reduceEq, Int.reduceAdd, Int.reduceToNat, hp, e]))
    refine rLeft_spec hs hp ?_
    have hl : s.left = s.b.length - s.pos := if_pos e
    simp (disch := omega) only [go_sem, ↓reduceIte, reduceCtorEq, Nat.reduceLT, Nat.reduceEqDiff, Nat.reduceBEq, Nat.reduceAdd, Nat.reduceMul, Nat.reduceSub, Nat.reduceLeDiff, Int.reduceNeg, Int.reduceLT, Int.reduceLE, Int.reduceEq, Int.reduceAdd, Int.reduceToNat, IntWalk.i64_in, IntWalk.u64_in, IntWalk.u8_in, if_pos, if_neg, Bool.and_eq_true, decide_eq_true_eq]
    (refine AW.cond rfl ?_; (try simp only [Bool.not_eq_true', decide_eq_false_iff_not, decide_eq_true_eq, Bool.false_eq_true, Bool.and_eq_true, Bool.or_eq_true, if_true, if_false]); split <;> rename_i e2)
    · ((try simp only [go_sem, ↓reduceIte, reduceCtorEq, Nat.reduceLT, Nat.reduceEqDiff, Nat.reduceBEq, Nat.reduceAdd, Nat.reduceMul, Nat.reduceSub, Nat.reduceLeDiff, Int.reduceNeg, Int.reduceLT, Int.reduceLE, Int.reduceEq, Int.reduceAdd, Int.reduceToNat, hp, e]); repeat ((first | refine AW.seq ?_ | refine AW.region env_ok ?_ | refine AW.region envR_ok ?_ | refine AW.skip ?_ | refine AW.block ?_ | refine AW.exit ?_ | refine AW.ret ?_ | (refine AW.cond (b := true) ?_ ?_; simp only [ev, upd, ↓reduceIte, Nat.reduceEqDiff]; rw [if_pos rfl]) | (refine AW.cond (b := false) ?_ ?_; simp only [ev, upd, ↓reduceIte, Nat.reduceEqDiff]; rw [if_neg Bool.false_ne_true]) | fail) <;> try simp only [go_sem, ↓reduceIte, reduceCtorEq, Nat.reduceLT, Nat.reduceEqDiff, Nat.reduceBEq, Nat.reduceAdd, Nat.reduceMul, Nat.reduceSub, Nat.reduceLeDiff, Int.reduceNeg, Int.reduceLT, Int.reduceLE, Int.reduceEq, Int.reduceAdd, Int.reduceToNat, hp, e]))
      have hp' := get_set (y := .cells ({ s with err := 10 } : CS).ref) hp
      ((try simp only [go_sem, ↓reduceIte, reduceCtorEq, Nat.reduceLT, Nat.reduceEqDiff, Nat.reduceBEq, Nat.reduceAdd, Nat.reduceMul, Nat.reduceSub, Nat.reduceLeDiff, Int.reduceNeg, Int.reduceLT, Int.reduceLE, Int.reduceEq, Int.reduceAdd, Int.reduceToNat, hp']); repeat ((first | refine AW.seq ?_ | refine AW.region env_ok ?_ | refine AW.region envR_ok ?_ | refine AW.skip ?_ | refine AW.block ?_ | refine AW.exit ?_ | refine AW.ret ?_ | (refine AW.cond (b := true) ?_ ?_; simp only [ev, upd, ↓reduceIte, Nat.reduceEqDiff]; rw [if_pos rfl]) | (refine AW.cond (b := false) ?_ ?_; simp only [ev, upd, ↓reduceIte, Nat.reduceEqDiff]; rw [if_neg Bool.false_ne_true]) | fail) <;> try simp only [go_sem, ↓reduceIte, reduceCtorEq, Nat.reduceLT, Nat.reduceEqDiff, Nat.reduceBEq, Nat.reduceAdd, Nat.reduceMul, Nat.reduceSub, Nat.reduceLeDiff, Int.reduceNeg, Int.reduceLT, Int.reduceLE, Int.reduceEq, Int.reduceAdd, Int.reduceToNat, hp']))
      ((try simp only [go_sem, ↓reduceIte, reduceCtorEq, Nat.reduceLT, Nat.reduceEqDiff, Nat.reduceBEq, Nat.reduceAdd, Nat.reduceMul, Nat.reduceSub, Nat.reduceLeDiff, Int.reduceNeg, Int.reduceLT, Int.reduceLE, Int.reduceEq, Int.reduceAdd, Int.reduceToNat, hp']); repeat ((first | refine AW.seq ?_ | refine AW.region env_ok ?_ | refine AW.region envR_ok ?_ | refine AW.skip ?_ | refine AW.block ?_ | refine AW.exit ?_ | refine AW.ret ?_ | (refine AW.cond (b := true) ?_ ?_; simp only [ev, upd, ↓reduceIte, Nat.reduceEqDiff]; rw [if_pos rfl]) | (refine AW.cond (b := false) ?_ ?_; simp only [ev, upd, ↓reduceIte, Nat.reduceEqDiff]; rw [if_neg Bool.false_ne_true]) | fail) <;> try simp only [go_sem, ↓reduceIte, reduceCtorEq, Nat.reduceLT, Nat.reduceEqDiff, Nat.reduceBEq, Nat.reduceAdd, Nat.reduceMul, Nat.reduceSub, Nat.reduceLeDiff, Int.reduceNeg, Int.reduceLT, Int.reduceLE, Int.reduceEq, Int.reduceAdd, Int.reduceToNat, hp']))
      rw [CS.take, if_pos e, if_neg (by omega)] at h
      exact .inl h
    · ((try simp only [go_sem, ↓reduceIte, reduceCtorEq, Nat.reduceLT, Nat.reduceEqDiff, Nat.reduceBEq, Nat.reduceAdd, Nat.reduceMul, Nat.reduceSub, Nat.reduceLeDiff, Int.reduceNeg, Int.reduceLT, Int.reduceLE, Int.reduceEq, Int.reduceAdd, Int.reduceToNat, hp, e]); repeat ((first | refine AW.seq ?_ | refine AW.region env_ok ?_ | refine AW.region envR_ok ?_ | refine AW.skip ?_ | refine AW.block ?_ | refine AW.exit ?_ | refine AW.ret ?_ | (refine AW.cond (b := true) ?_ ?_; simp only [ev, upd, ↓reduceIte, Nat.reduceEqDiff]; rw [if_pos rfl]) | (refine AW.cond (b := false) ?_ ?_; simp only [ev, upd, ↓reduceIte, Nat.reduceEqDiff]; rw [if_neg Bool.false_ne_true]) | fail) <;> try simp only [go_sem, ↓reduceIte, reduceCtorEq, Nat.reduceLT, Nat.reduceEqDiff, Nat.reduceBEq, Nat.reduceAdd, Nat.reduceMul, Nat.reduceSub, Nat.reduceLeDiff, Int.reduceNeg, Int.reduceLT, Int.reduceLE, Int.reduceEq, Int.reduceAdd, Int.reduceToNat, hp, e]))
      ((try simp only [go_sem, ↓reduceIte, reduceCtorEq, Nat.reduceLT, Nat.reduceEqDiff, Nat.reduceBEq, Nat.reduceAdd, Nat.reduceMul, Nat.reduceSub, Nat.reduceLeDiff, Int.reduceNeg, Int.reduceLT, Int.reduceLE, Int.reduceEq, Int.reduceAdd, Int.reduceToNat]); repeat ((first | refine AW.seq ?_ | refine AW.region env_ok ?_ | refine AW.region envR_ok ?_ | refine AW.skip ?_ | refine AW.block ?_ | refine AW.exit ?_ | refine AW.ret ?_ | (refine AW.cond (b := true) ?_ ?_; simp only [ev, upd, ↓reduceIte, Nat.reduceEqDiff]; rw [if_pos rfl]) | (refine AW.cond (b := false) ?_ ?_; simp only [ev, upd, ↓reduceIte, Nat.reduceEqDiff]; rw [if_neg Bool.false_ne_true]) | fail) <;> try simp only [go_sem, ↓reduceIte, reduceCtorEq, Nat.reduceLT, Nat.reduceEqDiff, Nat.reduceBEq, Nat.reduceAdd, Nat.reduceMul, Nat.reduceSub, Nat.reduceLeDiff, Int.reduceNeg, Int.reduceLT, Int.reduceLE, Int.reduceEq, Int.reduceAdd, Int.reduceToNat]))
      rw [CS.take, if_pos e, if_pos (by omega)] at h
      refine AW.loop (fun st => ∃ i : Nat, i ≤ k ∧ st.σ 6 = .int .i64 ((i : Int) - 1) ∧ st.σ 5 = .int .u64 (le ((s.b.take (s.pos + k)).drop (s.pos + i)) : Nat) ∧ st.σ 0 = .ptr (some (p, 0)) ∧ st.σ 1 = .int .i64 k ∧ st.H = H)
        (fun st => match st.σ 6 with | .int _ i => (i + 1).toNat | _ => 0) ⟨k, by omega, ?_, ?_, rfl, rfl, rfl⟩ ?_
      · simp (disch := omega) only [go_sem, ↓reduceIte, reduceCtorEq, Nat.reduceLT, Nat.reduceEqDiff, Nat.reduceBEq, Nat.reduceAdd, Nat.reduceMul, Nat.reduceSub, Nat.reduceLeDiff, Int.reduceNeg, Int.reduceLT, Int.reduceLE, Int.reduceEq, Int.reduceAdd, Int.reduceToNat, IntWalk.i64_in, IntWalk.u64_in, IntWalk.u8_in, if_pos, if_neg, Bool.and_eq_true, decide_eq_true_eq]
      · rw [List.drop_of_length_le (by rw [List.length_take]; omega)]; rfl
      rintro ⟨σ, H2⟩ ⟨i, hi, h6, h5, h0, h1, rfl⟩
      simp only at h6 h5 h0 h1
      ((try simp only [go_sem, ↓reduceIte, reduceCtorEq, Nat.reduceLT, Nat.reduceEqDiff, Nat.reduceBEq, Nat.reduceAdd, Nat.reduceMul, Nat.reduceSub, Nat.reduceLeDiff, Int.reduceNeg, Int.reduceLT, Int.reduceLE, Int.reduceEq, Int.reduceAdd, Int.reduceToNat, h6]); repeat ((first | refine AW.seq ?_ | refine AW.region env_ok ?_ | refine AW.region envR_ok ?_ | refine AW.skip ?_ | refine AW.block ?_ | refine AW.exit ?_ | refine AW.ret ?_ | (refine AW.cond (b := true) ?_ ?_; simp only [ev, upd, ↓reduceIte, Nat.reduceEqDiff]; rw [if_pos rfl]) | (refine AW.cond (b := false) ?_ ?_; simp only [ev, upd, ↓reduceIte, Nat.reduceEqDiff]; rw [if_neg Bool.false_ne_true]) | fail) <;> try simp only [go_sem, ↓reduceIte, reduceCtorEq, Nat.reduceLT, Nat.reduceEqDiff, Nat.reduceBEq, Nat.reduceAdd, Nat.reduceMul, Nat.reduceSub, Nat.reduceLeDiff, Int.reduceNeg, Int.reduceLT, Int.reduceLE, Int.reduceEq, Int.reduceAdd, Int.reduceToNat, h6]))
      (refine AW.cond rfl ?_; (try simp only [Bool.not_eq_true', decide_eq_false_iff_not, decide_eq_true_eq, Bool.false_eq_true, Bool.and_eq_true, Bool.or_eq_true, if_true, if_false]); split <;> rename_i e3)
      · obtain ⟨j, rfl⟩ : ∃ j, i = j + 1 := ⟨i - 1, by omega⟩
        rw [show ((j + 1 : Nat) : Int) - 1 = j by omega] at h6
        have hx := (s.b[s.pos + j]'(by omega)).toNat_lt
        have hle := le_lt ((s.b.take (s.pos + k)).drop (s.pos + (j + 1)))
        rw [List.length_drop, List.length_take, Nat.min_eq_left (by omega)] at hle
        have hpw : 256 ^ (s.pos + k - (s.pos + (j + 1))) ≤ 256 ^ 7 := Nat.pow_le_pow_right (by omega) (by omega)
        have hnew := le_cons_drop s.b (s.pos + j) (s.pos + k) (by omega) (by omega)
        rw [show s.pos + j + 1 = s.pos + (j + 1) by omega] at hnew
        simp only at hp
        ((try simp only [go_sem, ↓reduceIte, reduceCtorEq, Nat.reduceLT, Nat.reduceEqDiff, Nat.reduceBEq, Nat.reduceAdd, Nat.reduceMul, Nat.reduceSub, Nat.reduceLeDiff, Int.reduceNeg, Int.reduceLT, Int.reduceLE, Int.reduceEq, Int.reduceAdd, Int.reduceToNat, h6, h5, h0, h1]); repeat ((first | refine AW.seq ?_ | refine AW.region env_ok ?_ | refine AW.region envR_ok ?_ | refine AW.skip ?_ | refine AW.block ?_ | refine AW.exit ?_ | refine AW.ret ?_ | (refine AW.cond (b := true) ?_ ?_; simp only [ev, upd, ↓reduceIte, Nat.reduceEqDiff]; rw [if_pos rfl]) | (refine AW.cond (b := false) ?_ ?_; simp only [ev, upd, ↓reduceIte, Nat.reduceEqDiff]; rw [if_neg Bool.false_ne_true]) | fail) <;> try simp only [go_sem, ↓reduceIte, reduceCtorEq, Nat.reduceLT, Nat.reduceEqDiff, Nat.reduceBEq, Nat.reduceAdd, Nat.reduceMul, Nat.reduceSub, Nat.reduceLeDiff, Int.reduceNeg, Int.reduceLT, Int.reduceLE, Int.reduceEq, Int.reduceAdd, Int.reduceToNat, h6, h5, h0, h1]))
        refine AW.chain env_ok [0, 1, 0, 4, 12, 28, 0, 64, 192, 448, 0, 1984, 4092, 8188, 16380, 32767, 65535] [0, 1, 2, 3, 4, 5, 6, 7, 8, 9, 10, 11, 12, 13, 14, 15] [(16, [], [])] mixed (by decide) ?_
        simp (disch := omega) only [go_sem, ↓reduceIte, reduceCtorEq, Nat.reduceLT, Nat.reduceEqDiff, Nat.reduceBEq, Nat.reduceAdd, Nat.reduceMul, Nat.reduceSub, Nat.reduceLeDiff, Int.reduceNeg, Int.reduceLT, Int.reduceLE, Int.reduceEq, Int.reduceAdd, Int.reduceToNat, IntWalk.i64_in, IntWalk.u64_in, IntWalk.u8_in, if_pos, if_neg, Bool.and_eq_true, decide_eq_true_eq, h6, h5, h0, h1, hp, bA_at s.b (s.pos + j) _ (by omega), byteA]
        ((try simp (disch := omega) only [go_sem, ↓reduceIte, reduceCtorEq, Nat.reduceLT, Nat.reduceEqDiff, Nat.reduceBEq, Nat.reduceAdd, Nat.reduceMul, Nat.reduceSub, Nat.reduceLeDiff, Int.reduceNeg, Int.reduceLT, Int.reduceLE, Int.reduceEq, Int.reduceAdd, Int.reduceToNat, IntWalk.i64_in, IntWalk.u64_in, IntWalk.u8_in, if_pos, if_neg, Bool.and_eq_true, decide_eq_true_eq, h6, h5, h0, h1, hp, bA_at s.b (s.pos + j) _ (by omega), byteA]); repeat ((first | refine AW.seq ?_ | refine AW.region env_ok ?_ | refine AW.region envR_ok ?_ | refine AW.skip ?_ | refine AW.block ?_ | refine AW.exit ?_ | refine AW.ret ?_ | (refine AW.cond (b := true) ?_ ?_; simp only [ev, upd, ↓reduceIte, Nat.reduceEqDiff]; rw [if_pos rfl]) | (refine AW.cond (b := false) ?_ ?_; simp only [ev, upd, ↓reduceIte, Nat.reduceEqDiff]; rw [if_neg Bool.false_ne_true]) | fail) <;> try simp (disch := omega) only [go_sem, ↓reduceIte, reduceCtorEq, Nat.reduceLT, Nat.reduceEqDiff, Nat.reduceBEq, Nat.reduceAdd, Nat.reduceMul, Nat.reduceSub, Nat.reduceLeDiff, Int.reduceNeg, Int.reduceLT, Int.reduceLE, Int.reduceEq, Int.reduceAdd, Int.reduceToNat, IntWalk.i64_in, IntWalk.u64_in, IntWalk.u8_in, if_pos, if_neg, Bool.and_eq_true, decide_eq_true_eq, h6, h5, h0, h1, hp, bA_at s.b (s.pos + j) _ (by omega), byteA]))
        refine ⟨⟨j, by omega, rfl, ?_⟩, by omega⟩
        rw [hnew]
        exact congrArg (V.int .u64) (by omega)
      · rw [show i = 0 by omega, Nat.add_zero] at h5
        simp only at hp h
        ((try simp (disch := omega) only [go_sem, ↓reduceIte, reduceCtorEq, Nat.reduceLT, Nat.reduceEqDiff, Nat.reduceBEq, Nat.reduceAdd, Nat.reduceMul, Nat.reduceSub, Nat.reduceLeDiff, Int.reduceNeg, Int.reduceLT, Int.reduceLE, Int.reduceEq, Int.reduceAdd, Int.reduceToNat, IntWalk.i64_in, IntWalk.u64_in, IntWalk.u8_in, if_pos, if_neg, Bool.and_eq_true, decide_eq_true_eq, h6, h5, h0, h1, hp]); repeat ((first | refine AW.seq ?_ | refine AW.region env_ok ?_ | refine AW.region envR_ok ?_ | refine AW.skip ?_ | refine AW.block ?_ | refine AW.exit ?_ | refine AW.ret ?_ | (refine AW.cond (b := true) ?_ ?_; simp only [ev, upd, ↓reduceIte, Nat.reduceEqDiff]; rw [if_pos rfl]) | (refine AW.cond (b := false) ?_ ?_; simp only [ev, upd, ↓reduceIte, Nat.reduceEqDiff]; rw [if_neg Bool.false_ne_true]) | fail) <;> try simp (disch := omega) only [go_sem, ↓reduceIte, reduceCtorEq, Nat.reduceLT, Nat.reduceEqDiff, Nat.reduceBEq, Nat.reduceAdd, Nat.reduceMul, Nat.reduceSub, Nat.reduceLeDiff, Int.reduceNeg, Int.reduceLT, Int.reduceLE, Int.reduceEq, Int.reduceAdd, Int.reduceToNat, IntWalk.i64_in, IntWalk.u64_in, IntWalk.u8_in, if_pos, if_neg, Bool.and_eq_true, decide_eq_true_eq, h6, h5, h0, h1, hp]))
        exact .inl h
  · ((try simp only [go_sem, ↓reduceIte, reduceCtorEq, Nat.reduceLT, Nat.reduceEqDiff, Nat.reduceBEq, Nat.reduceAdd, Nat.reduceMul, Nat.reduceSub, Nat.reduceLeDiff, Int.reduceNeg, Int.reduceLT, Int.reduceLE, Int.reduceEq, Int.reduceAdd, Int.reduceToNat, hp, e]); repeat ((first | refine AW.seq ?_ | refine AW.region env_ok ?_ | refine AW.region envR_ok ?_ | refine AW.skip ?_ | refine AW.block ?_ | refine AW.exit ?_ | refine AW.ret ?_ | (refine AW.cond (b := true) ?_ ?_; simp only [ev, upd, ↓reduceIte, Nat.reduceEqDiff]; rw [if_pos rfl]) | (refine AW.cond (b := false) ?_ ?_; simp only [ev, upd, ↓reduceIte, Nat.reduceEqDiff]; rw [if_neg Bool.false_ne_true]) | fail) <;> try simp only [go_sem, ↓reduceIte, reduceCtorEq, Nat.reduceLT, Nat.reduceEqDiff, Nat.reduceBEq, Nat.reduceAdd, Nat.reduceMul, Nat.reduceSub, Nat.reduceLeDiff, Int.reduceNeg, Int.reduceLT, Int.reduceLE, Int.reduceEq, Int.reduceAdd, Int.reduceToNat, hp, e]))
    ((try simp only [go_sem, ↓reduceIte, reduceCtorEq, Nat.reduceLT, Nat.reduceEqDiff, Nat.reduceBEq, Nat.reduceAdd, Nat.reduceMul, Nat.reduceSub, Nat.reduceLeDiff, Int.reduceNeg, Int.reduceLT, Int.reduceLE, Int.reduceEq, Int.reduceAdd, Int.reduceToNat, hp, e]); repeat ((first | refine AW.seq ?_ | refine AW.region env_ok ?_ | refine AW.region envR_ok ?_ | refine AW.skip ?_ | refine AW.block ?_ | refine AW.exit ?_ | refine AW.ret ?_ | (refine AW.cond (b := true) ?_ ?_; simp only [ev, upd, ↓reduceIte, Nat.reduceEqDiff]; rw [if_pos rfl]) | (refine AW.cond (b := false) ?_ ?_; simp only [ev, upd, ↓reduceIte, Nat.reduceEqDiff]; rw [if_neg Bool.false_ne_true]) | fail) <;> try simp only [go_sem, ↓reduceIte, reduceCtorEq, Nat.reduceLT, Nat.reduceEqDiff, Nat.reduceBEq, Nat.reduceAdd, Nat.reduceMul, Nat.reduceSub, Nat.reduceLeDiff, Int.reduceNeg, Int.reduceLT, Int.reduceLE, Int.reduceEq, Int.reduceAdd, Int.reduceToNat, hp, e]))
    ((try simp only [go_sem, ↓reduceIte, reduceCtorEq, Nat.reduceLT, Nat.reduceEqDiff, Nat.reduceBEq, Nat.reduceAdd, Nat.reduceMul, Nat.reduceSub, Nat.reduceLeDiff, Int.reduceNeg, Int.reduceLT, Int.reduceLE, Int.reduceEq, Int.reduceAdd, Int.reduceToNat]); repeat ((first | refine AW.seq ?_ | refine AW.region env_ok ?_ | refine AW.region envR_ok ?_ | refine AW.skip ?_ | refine AW.block ?_ | refine AW.exit ?_ | refine AW.ret ?_ | (refine AW.cond (b := true) ?_ ?_; simp only [ev, upd, ↓reduceIte, Nat.reduceEqDiff]; rw [if_pos rfl]) | (refine AW.cond (b := false) ?_ ?_; simp only [ev, upd, ↓reduceIte, Nat.reduceEqDiff]; rw [if_neg Bool.false_ne_true]) | fail) <;> try simp only [go_sem, ↓reduceIte, reduceCtorEq, Nat.reduceLT, Nat.reduceEqDiff, Nat.reduceBEq, Nat.reduceAdd, Nat.reduceMul, Nat.reduceSub, Nat.reduceLeDiff, Int.reduceNeg, Int.reduceLT, Int.reduceLE, Int.reduceEq, Int.reduceAdd, Int.reduceToNat]))
    rw [CS.take, if_neg e, set_same hp] at h
    exact .inl h

theorem rBytes_spec {n : Nat} (hn : n < 18446744073709551616) (hs : s.Ok) (hb : s.b.length < 140737488355328) (hp : H[p]? = some (.cells s.ref)) (h : Q (.sl (bA (s.take n).1) none ()) (H.set p (.cells (s.take n).2.ref))) : AC Try.prog 63 [.ptr (some (p, 0)), .int .u64 n] H Q := by
  obtain ⟨o1, o2, o3, o4⟩ := id hs
  refine AC.enter (E := env Try.prog 55 (fun _ => .copy) (fun t => t == 4 || t == 43)) env_ok Try.func63 rfl rfl rfl (by simp only [List.length_cons, List.length_nil]; exact of_decide_eq_true rfl) ?_
  ((try simp only [go_sem, ↓reduceIte, reduceCtorEq, Nat.reduceLT, Nat.reduceEqDiff, Nat.reduceBEq, Nat.reduceAdd, Nat.reduceMul, Nat.reduceSub, Nat.reduceLeDiff, Int.reduceNeg, Int.reduceLT, Int.reduceLE, Int.reduceEq, Int.reduceAdd, Int.reduceToNat]); repeat ((first | refine AW.seq ?_ | refine AW.region env_ok ?_ | refine AW.region envR_ok ?_ | refine AW.skip ?_ | refine AW.block ?_ | refine AW.exit ?_ | refine AW.ret ?_ | (refine AW.cond (b := true) ?_ ?_; simp only [ev, upd, ↓reduceIte, Nat.reduceEqDiff]; rw [if_pos rfl]) | (refine AW.cond (b := false) ?_ ?_; simp only [ev, upd, ↓reduceIte, Nat.reduceEqDiff]; rw [if_neg Bool.false_ne_true]) | fail) <;> try simp only [go_sem, ↓reduceIte, reduceCtorEq, Nat.reduceLT, Nat.reduceEqDiff, Nat.reduceBEq, Nat.reduceAdd, Nat.reduceMul, Nat.reduceSub, Nat.reduceLeDiff, Int.reduceNeg, Int.reduceLT, Int.reduceLE, Int.reduceEq, Int.reduceAdd, Int.reduceToNat]))
  by_cases e : s.err = 0
  · ((try simp only [go_sem, ↓reduceIte, reduceCtorEq, Nat.reduceLT, Nat.reduceEqDiff, Nat.reduceBEq, Nat.reduceAdd, Nat.reduceMul, Nat.reduceSub, Nat.reduceLeDiff, Int.reduceNeg, Int.reduceLT, Int.reduceLE, Int.reduceEq, Int.reduceAdd, Int.reduceToNat, hp, e]); repeat ((first | refine AW.seq ?_ | refine AW.region env_ok ?_ | refine AW.region envR_ok ?_ | refine AW.skip ?_ | refine AW.block ?_ | refine AW.exit ?_ | refine AW.ret ?_ | (refine AW.cond (b := true) ?_ ?_; simp only [ev, upd, ↓reduceIte, Nat.reduceEqDiff]; rw [if_pos rfl]) | (refine AW.cond (b := false) ?_ ?_; simp only [ev, upd, ↓reduceIte, Nat.reduceEqDiff]; rw [if_neg Bool.false_ne_true]) | fail) <;> try simp only [go_sem, ↓reduceIte, reduceCtorEq, Nat.reduceLT, Nat.reduceEqDiff, Nat.reduceBEq, Nat.reduceAdd, Nat.reduceMul, Nat.reduceSub, Nat.reduceLeDiff, Int.reduceNeg, Int.reduceLT, Int.reduceLE, Int.reduceEq, Int.reduceAdd, Int.reduceToNat, hp, e]))
    refine rLeft_spec hs hp ?_
    have hl : s.left = s.b.length - s.pos := if_pos e
    simp (disch := omega) only [go_sem, ↓reduceIte, reduceCtorEq, Nat.reduceLT, Nat.reduceEqDiff, Nat.reduceBEq, Nat.reduceAdd, Nat.reduceMul, Nat.reduceSub, Nat.reduceLeDiff, Int.reduceNeg, Int.reduceLT, Int.reduceLE, Int.reduceEq, Int.reduceAdd, Int.reduceToNat, IntWalk.i64_in, IntWalk.u64_in, IntWalk.u8_in, if_pos, if_neg, Bool.and_eq_true, decide_eq_true_eq]
    (refine AW.cond rfl ?_; (try simp only [Bool.not_eq_true', decide_eq_false_iff_not, decide_eq_true_eq, Bool.false_eq_true, Bool.and_eq_true, Bool.or_eq_true, if_true, if_false]); split <;> rename_i e2)
    · ((try simp only [go_sem, ↓reduceIte, reduceCtorEq, Nat.reduceLT, Nat.reduceEqDiff, Nat.reduceBEq, Nat.reduceAdd, Nat.reduceMul, Nat.reduceSub, Nat.reduceLeDiff, Int.reduceNeg, Int.reduceLT, Int.reduceLE, Int.reduceEq, Int.reduceAdd, Int.reduceToNat, hp, e]); repeat ((first | refine AW.seq ?_ | refine AW.region env_ok ?_ | refine AW.region envR_ok ?_ | refine AW.skip ?_ | refine AW.block ?_ | refine AW.exit ?_ | refine AW.ret ?_ | (refine AW.cond (b := true) ?_ ?_; simp only [ev, upd, ↓reduceIte, Nat.reduceEqDiff]; rw [if_pos rfl]) | (refine AW.cond (b := false) ?_ ?_; simp only [ev, upd, ↓reduceIte, Nat.reduceEqDiff]; rw [if_neg Bool.false_ne_true]) | fail) <;> try simp only [go_sem, ↓reduceIte, reduceCtorEq, Nat.reduceLT, Nat.reduceEqDiff, Nat.reduceBEq, Nat.reduceAdd, Nat.reduceMul, Nat.reduceSub, Nat.reduceLeDiff, Int.reduceNeg, Int.reduceLT, Int.reduceLE, Int.reduceEq, Int.reduceAdd, Int.reduceToNat, hp, e]))
      have hp' := get_set (y := .cells ({ s with err := 10 } : CS).ref) hp
      ((try simp only [go_sem, ↓reduceIte, reduceCtorEq, Nat.reduceLT, Nat.reduceEqDiff, Nat.reduceBEq, Nat.reduceAdd, Nat.reduceMul, Nat.reduceSub, Nat.reduceLeDiff, Int.reduceNeg, Int.reduceLT, Int.reduceLE, Int.reduceEq, Int.reduceAdd, Int.reduceToNat, hp']); repeat ((first | refine AW.seq ?_ | refine AW.region env_ok ?_ | refine AW.region envR_ok ?_ | refine AW.skip ?_ | refine AW.block ?_ | refine AW.exit ?_ | refine AW.ret ?_ | (refine AW.cond (b := true) ?_ ?_; simp only [ev, upd, ↓reduceIte, Nat.reduceEqDiff]; rw [if_pos rfl]) | (refine AW.cond (b := false) ?_ ?_; simp only [ev, upd, ↓reduceIte, Nat.reduceEqDiff]; rw [if_neg Bool.false_ne_true]) | fail) <;> try simp only [go_sem, ↓reduceIte, reduceCtorEq, Nat.reduceLT, Nat.reduceEqDiff, Nat.reduceBEq, Nat.reduceAdd, Nat.reduceMul, Nat.reduceSub, Nat.reduceLeDiff, Int.reduceNeg, Int.reduceLT, Int.reduceLE, Int.reduceEq, Int.reduceAdd, Int.reduceToNat, hp']))
      ((try simp only [go_sem, ↓reduceIte, reduceCtorEq, Nat.reduceLT, Nat.reduceEqDiff, Nat.reduceBEq, Nat.reduceAdd, Nat.reduceMul, Nat.reduceSub, Nat.reduceLeDiff, Int.reduceNeg, Int.reduceLT, Int.reduceLE, Int.reduceEq, Int.reduceAdd, Int.reduceToNat, hp']); repeat ((first | refine AW.seq ?_ | refine AW.region env_ok ?_ | refine AW.region envR_ok ?_ | refine AW.skip ?_ | refine AW.block ?_ | refine AW.exit ?_ | refine AW.ret ?_ | (refine AW.cond (b := true) ?_ ?_; simp only [ev, upd, ↓reduceIte, Nat.reduceEqDiff]; rw [if_pos rfl]) | (refine AW.cond (b := false) ?_ ?_; simp only [ev, upd, ↓reduceIte, Nat.reduceEqDiff]; rw [if_neg Bool.false_ne_true]) | fail) <;> try simp only [go_sem, ↓reduceIte, reduceCtorEq, Nat.reduceLT, Nat.reduceEqDiff, Nat.reduceBEq, Nat.reduceAdd, Nat.reduceMul, Nat.reduceSub, Nat.reduceLeDiff, Int.reduceNeg, Int.reduceLT, Int.reduceLE, Int.reduceEq, Int.reduceAdd, Int.reduceToNat, hp']))
      rw [CS.take, if_pos e, if_neg (by omega)] at h
      exact .inl h
    · ((try simp only [go_sem, ↓reduceIte, reduceCtorEq, Nat.reduceLT, Nat.reduceEqDiff, Nat.reduceBEq, Nat.reduceAdd, Nat.reduceMul, Nat.reduceSub, Nat.reduceLeDiff, Int.reduceNeg, Int.reduceLT, Int.reduceLE, Int.reduceEq, Int.reduceAdd, Int.reduceToNat, hp, e]); repeat ((first | refine AW.seq ?_ | refine AW.region env_ok ?_ | refine AW.region envR_ok ?_ | refine AW.skip ?_ | refine AW.block ?_ | refine AW.exit ?_ | refine AW.ret ?_ | (refine AW.cond (b := true) ?_ ?_; simp only [ev, upd, ↓reduceIte, Nat.reduceEqDiff]; rw [if_pos rfl]) | (refine AW.cond (b := false) ?_ ?_; simp only [ev, upd, ↓reduceIte, Nat.reduceEqDiff]; rw [if_neg Bool.false_ne_true]) | fail) <;> try simp only [go_sem, ↓reduceIte, reduceCtorEq, Nat.reduceLT, Nat.reduceEqDiff, Nat.reduceBEq, Nat.reduceAdd, Nat.reduceMul, Nat.reduceSub, Nat.reduceLeDiff, Int.reduceNeg, Int.reduceLT, Int.reduceLE, Int.reduceEq, Int.reduceAdd, Int.reduceToNat, hp, e]))
      ((try simp only [go_sem, ↓reduceIte, reduceCtorEq, Nat.reduceLT, Nat.reduceEqDiff, Nat.reduceBEq, Nat.reduceAdd, Nat.reduceMul, Nat.reduceSub, Nat.reduceLeDiff, Int.reduceNeg, Int.reduceLT, Int.reduceLE, Int.reduceEq, Int.reduceAdd, Int.reduceToNat]); repeat ((first | refine AW.seq ?_ | refine AW.region env_ok ?_ | refine AW.region envR_ok ?_ | refine AW.skip ?_ | refine AW.block ?_ | refine AW.exit ?_ | refine AW.ret ?_ | (refine AW.cond (b := true) ?_ ?_; simp only [ev, upd, ↓reduceIte, Nat.reduceEqDiff]; rw [if_pos rfl]) | (refine AW.cond (b := false) ?_ ?_; simp only [ev, upd, ↓reduceIte, Nat.reduceEqDiff]; rw [if_neg Bool.false_ne_true]) | fail) <;> try simp only [go_sem, ↓reduceIte, reduceCtorEq, Nat.reduceLT, Nat.reduceEqDiff, Nat.reduceBEq, Nat.reduceAdd, Nat.reduceMul, Nat.reduceSub, Nat.reduceLeDiff, Int.reduceNeg, Int.reduceLT, Int.reduceLE, Int.reduceEq, Int.reduceAdd, Int.reduceToNat]))
      rw [CS.take, if_pos e, if_pos (by omega)] at h
      refine AW.chain env_ok [0, 0, 2, 6, 14, 0, 32, 96, 224, 0, 512, 1536, 3584, 0, 8192, 32256, 65534, 131071, 262143] [0, 1, 2, 3, 4, 5, 6, 7, 8, 9, 10, 11, 12, 13, 14, 15, 16] [(17, [], []), (18, [], [])] mixed (by decide) ?_
      have hlen : ((s.b.take (s.pos + n)).drop s.pos).length ≤ 140737488355328 := by simp; omega
      simp (disch := omega) only [go_sem, ↓reduceIte, reduceCtorEq, Nat.reduceLT, Nat.reduceEqDiff, Nat.reduceBEq, Nat.reduceAdd, Nat.reduceMul, Nat.reduceSub, Nat.reduceLeDiff, Int.reduceNeg, Int.reduceLT, Int.reduceLE, Int.reduceEq, Int.reduceAdd, Int.reduceToNat, IntWalk.i64_in, IntWalk.u64_in, IntWalk.u8_in, if_pos, if_neg, Bool.and_eq_true, decide_eq_true_eq, hp]
      ((try simp (disch := omega) only [go_sem, ↓reduceIte, reduceCtorEq, Nat.reduceLT, Nat.reduceEqDiff, Nat.reduceBEq, Nat.reduceAdd, Nat.reduceMul, Nat.reduceSub, Nat.reduceLeDiff, Int.reduceNeg, Int.reduceLT, Int.reduceLE, Int.reduceEq, Int.reduceAdd, Int.reduceToNat, IntWalk.i64_in, IntWalk.u64_in, IntWalk.u8_in, if_pos, if_neg, Bool.and_eq_true, decide_eq_true_eq, hp]); repeat ((first | refine AW.seq ?_ | refine AW.region env_ok ?_ | refine AW.region envR_ok ?_ | refine AW.skip ?_ | refine AW.block ?_ | refine AW.exit ?_ | refine AW.ret ?_ | (refine AW.cond (b := true) ?_ ?_; simp only [ev, upd, ↓reduceIte, Nat.reduceEqDiff]; rw [if_pos rfl]) | (refine AW.cond (b := false) ?_ ?_; simp only [ev, upd, ↓reduceIte, Nat.reduceEqDiff]; rw [if_neg Bool.false_ne_true]) | fail) <;> try simp (disch := omega) only [go_sem, ↓reduceIte, reduceCtorEq, Nat.reduceLT, Nat.reduceEqDiff, Nat.reduceBEq, Nat.reduceAdd, Nat.reduceMul, Nat.reduceSub, Nat.reduceLeDiff, Int.reduceNeg, Int.reduceLT, Int.reduceLE, Int.reduceEq, Int.reduceAdd, Int.reduceToNat, IntWalk.i64_in, IntWalk.u64_in, IntWalk.u8_in, if_pos, if_neg, Bool.and_eq_true, decide_eq_true_eq, hp]))
      exact .inl h
  · ((try simp only [go_sem, ↓reduceIte, reduceCtorEq, Nat.reduceLT, Nat.reduceEqDiff, Nat.reduceBEq, Nat.reduceAdd, Nat.reduceMul, Nat.reduceSub, Nat.reduceLeDiff, Int.reduceNeg, Int.reduceLT, Int.reduceLE, Int.reduceEq, Int.reduceAdd, Int.reduceToNat, hp, e]); repeat ((first | refine AW.seq ?_ | refine AW.region env_ok ?_ | refine AW.region envR_ok ?_ | refine AW.skip ?_ | refine AW.block ?_ | refine AW.exit ?_ | refine AW.ret ?_ | (refine AW.cond (b := true) ?_ ?_; simp only [ev, upd, ↓reduceIte, Nat.reduceEqDiff]; rw [if_pos rfl]) | (refine AW.cond (b := false) ?_ ?_; simp only [ev, upd, ↓reduceIte, Nat.reduceEqDiff]; rw [if_neg Bool.false_ne_true]) | fail) <;> try simp only [go_sem, ↓reduceIte, reduceCtorEq, Nat.reduceLT, Nat.reduceEqDiff, Nat.reduceBEq, Nat.reduceAdd, Nat.reduceMul, Nat.reduceSub, Nat.reduceLeDiff, Int.reduceNeg, Int.reduceLT, Int.reduceLE, Int.reduceEq, Int.reduceAdd, Int.reduceToNat, hp, e]))
    ((try simp only [go_sem, ↓reduceIte, reduceCtorEq, Nat.reduceLT, Nat.reduceEqDiff, Nat.reduceBEq, Nat.reduceAdd, Nat.reduceMul, Nat.reduceSub, Nat.reduceLeDiff, Int.reduceNeg, Int.reduceLT, Int.reduceLE, Int.reduceEq, Int.reduceAdd, Int.reduceToNat, hp, e]); repeat ((first | refine AW.seq ?_ | refine AW.region env_ok ?_ | refine AW.region envR_ok ?_ | refine AW.skip ?_ | refine AW.block ?_ | refine AW.exit ?_ | refine AW.ret ?_ | (refine AW.cond (b := true) ?_ ?_; simp only [ev, upd, ↓reduceIte, Nat.reduceEqDiff]; rw [if_pos rfl]) | (refine AW.cond (b := false) ?_ ?_; simp only [ev, upd, ↓reduceIte, Nat.reduceEqDiff]; rw [if_neg Bool.false_ne_true]) | fail) <;> try simp only [go_sem, ↓reduceIte, reduceCtorEq, Nat.reduceLT, Nat.reduceEqDiff, Nat.reduceBEq, Nat.reduceAdd, Nat.reduceMul, Nat.reduceSub, Nat.reduceLeDiff, Int.reduceNeg, Int.reduceLT, Int.reduceLE, Int.reduceEq, Int.reduceAdd, Int.reduceToNat, hp, e]))
    ((try simp only [go_sem, ↓reduceIte, reduceCtorEq, Nat.reduceLT, Nat.reduceEqDiff, Nat.reduceBEq, Nat.reduceAdd, Nat.reduceMul, Nat.reduceSub, Nat.reduceLeDiff, Int.reduceNeg, Int.reduceLT, Int.reduceLE, Int.reduceEq, Int.reduceAdd, Int.reduceToNat]); repeat ((first | refine AW.seq ?_ | refine AW.region env_ok ?_ | refine AW.region envR_ok ?_ | refine AW.skip ?_ | refine AW.block ?_ | refine AW.exit ?_ | refine AW.ret ?_ | (refine AW.cond (b := true) ?_ ?_; simp only [ev, upd, ↓reduceIte, Nat.reduceEqDiff]; rw [if_pos rfl]) | (refine AW.cond (b := false) ?_ ?_; simp only [ev, upd, ↓reduceIte, Nat.reduceEqDiff]; rw [if_neg Bool.false_ne_true]) | fail) <;> try simp only [go_sem, ↓reduceIte, reduceCtorEq, Nat.reduceLT, Nat.reduceEqDiff, Nat.reduceBEq, Nat.reduceAdd, Nat.reduceMul, Nat.reduceSub, Nat.reduceLeDiff, Int.reduceNeg, Int.reduceLT, Int.reduceLE, Int.reduceEq, Int.reduceAdd, Int.reduceToNat]))
    rw [CS.take, if_neg e, set_same hp] at h
    exact .inl h

end
end Go.Ab
end

section
/- Packages leb and sindriref02: numbers of 7-bit bytes that are read. -/
namespace Go.Ab
open V Go.Proofs
set_option maxHeartbeats 4000000
set_option maxRecDepth 10000
set_option linter.unusedSimpArgs false
set_option linter.unusedVariables false

/-- The 7-bit parts of a number, of at most k bytes; none: it is refused. -/
def seven : Nat → CS → Option (List Nat) × CS
  | 0, s => (none, s.fail 11)
  | k + 1, s =>
    let r := s.take 1
    if r.2.err = 0 then
      (if le r.1 < 128 then (some [le r.1], r.2) else
        match seven k r.2 with
        | (some l, s2) => (some (le r.1 % 128 :: l), s2)
        | (none, s2) => (none, s2))
    else (none, r.2)

def val7 : List Nat → Nat
  | [] => 0
  | x :: l => x + 128 * val7 l

/-- A number that is not below 0. -/
def CS.uleb (s : CS) : Nat × CS :=
  match seven 10 s with
  | (some l, s2) => if l.length = 10 ∧ 1 < l.getD 9 0 then (0, s2.fail 11) else (val7 l, s2)
  | (none, s2) => (0, s2)

theorem CS.Ok.take {s : CS} (h : s.Ok) (n : Nat) : (s.take n).2.Ok := by
  obtain ⟨o1, o2, o3, o4⟩ := h
  unfold CS.take
  split
  · split
    · exact ⟨by simp only; omega, o2, o3, o4⟩
    · exact ⟨o1, o2, by simp, by simp⟩
  · exact ⟨o1, o2, o3, o4⟩
theorem CS.take_b (s : CS) (n : Nat) : (s.take n).2.b = s.b := by
  unfold CS.take; split
  · split <;> rfl
  · rfl
theorem CS.fail_b (s : CS) (e : Int) : (s.fail e).b = s.b := by unfold CS.fail; split <;> rfl
theorem CS.Ok.fail {s : CS} (h : s.Ok) {e : Int} (h0 : 0 ≤ e) (h1 : e < 1000000) : (s.fail e).Ok := by
  obtain ⟨o1, o2, o3, o4⟩ := h
  unfold CS.fail
  split
  · exact ⟨o1, o2, h0, h1⟩
  · exact ⟨o1, o2, o3, o4⟩
theorem le1 (s : CS) : le (s.take 1).1 < 256 := by
  have := le_lt (s.take 1).1
  have := take_len s 1
  have : 256 ^ (s.take 1).1.length ≤ 256 ^ 1 := Nat.pow_le_pow_right (by omega) this
  omega
theorem seven_ok : ∀ (k : Nat) (s : CS), s.Ok → (seven k s).2.Ok ∧ (seven k s).2.b = s.b ∧ ∀ l, (seven k s).1 = some l → 1 ≤ l.length ∧ l.length ≤ k ∧ ∀ x ∈ l, x < 128
  | 0, s, h => ⟨h.fail (by omega) (by omega), s.fail_b 11, by simp [seven]⟩
  | k + 1, s, h => by
    have ih := seven_ok k (s.take 1).2 (h.take 1)
    have := le1 s
    simp only [seven]
    split
    · split
      · exact ⟨h.take 1, s.take_b 1, by rintro l ⟨⟩; exact ⟨by simp, by simp, by simp; omega⟩⟩
      · generalize seven k (s.take 1).2 = q at ih
        obtain ⟨r, s2⟩ := q
        cases r with
        | none => exact ⟨ih.1, ih.2.1.trans (s.take_b 1), by simp⟩
        | some l =>
          obtain ⟨i1, i2, i3⟩ := ih
          obtain ⟨j1, j2, j3⟩ := i3 l rfl
          refine ⟨i1, i2.trans (s.take_b 1), ?_⟩
          rintro l' ⟨⟩
          refine ⟨by simp, by simp only [List.length_cons]; omega, ?_⟩
          intro x hx
          rcases List.mem_cons.1 hx with rfl | hx
          · omega
          · exact j3 x hx
    · exact ⟨h.take 1, s.take_b 1, by simp⟩

theorem val7_lt : ∀ l : List Nat, (∀ x ∈ l, x < 128) → val7 l < 128 ^ l.length
  | [], _ => by simp [val7]
  | x :: l, h => by
    have := val7_lt l fun y hy => h y (by simp [hy])
    have := h x (by simp)
    simp only [val7, List.length_cons, Nat.pow_succ]; omega
theorem val7_append (l m : List Nat) : val7 (l ++ m) = val7 l + 128 ^ l.length * val7 m := by
  induction l with
  | nil => simp [val7]
  | cons x l ih =>
    simp only [List.cons_append, val7, ih, List.length_cons, Nat.pow_succ, Nat.mul_add]
    have : 128 * (128 ^ l.length * val7 m) = 128 ^ l.length * 128 * val7 m := by rw [Nat.mul_comm (128 ^ l.length) 128, Nat.mul_assoc]
    omega

section
variable {p : Nat} {s : CS} {H : Heap} {Q : A → Heap → Prop}

theorem Sub_spec {n : Nat} (hn : n < 18446744073709551616) (hs : s.Ok) (hb : s.b.length < 140737488355328) (hp : H[p]? = some (.cells s.cur))
    (h : Q (.ptr (some (H.length, 0))) (H.set p (.cells (s.take n).2.cur) ++ [.cells (CS.mk (s.take n).1 0 (s.take n).2.err).cur])) : AC Try.prog 55 [.ptr (some (p, 0)), .int .u64 n] H Q := by
  refine AC.enter (E := env Try.prog 16 (fun _ => .copy) (fun _ => false)) env_ok Try.func55 rfl rfl rfl (by simp only [List.length_cons, List.length_nil]; exact of_decide_eq_true rfl) ?_
  ((try simp only [go_sem, ↓reduceIte, reduceCtorEq, Nat.reduceLT, Nat.reduceEqDiff, Nat.reduceBEq, Nat.reduceAdd, Nat.reduceMul, Nat.reduceSub, Nat.reduceLeDiff, Int.reduceNeg, Int.reduceLT, Int.reduceLE, Int.reduceEq, Int.reduceAdd, Int.reduceToNat]); repeat ((first | refine AW.seq ?_ | refine AW.region env_ok ?_ | refine AW.region envR_ok ?_ | refine AW.skip ?_ | refine AW.block ?_ | refine AW.exit ?_ | refine AW.ret ?_ | (refine AW.cond (b := true) ?_ ?_; simp only [ev, upd, ↓reduceIte, Nat.reduceEqDiff]; rw [if_pos rfl]) | (refine AW.cond (b := false) ?_ ?_; simp only [ev, upd, ↓reduceIte, Nat.reduceEqDiff]; rw [if_neg Bool.false_ne_true]) | fail) <;> try simp only [go_sem, ↓reduceIte, reduceCtorEq, Nat.reduceLT, Nat.reduceEqDiff, Nat.reduceBEq, Nat.reduceAdd, Nat.reduceMul, Nat.reduceSub, Nat.reduceLeDiff, Int.reduceNeg, Int.reduceLT, Int.reduceLE, Int.reduceEq, Int.reduceAdd, Int.reduceToNat]))
  refine next_spec hn hs hp ?_
  have hl : (s.take n).1.length ≤ s.b.length := by
    unfold CS.take; split
    · split
      · simp; omega
      · simp
    · simp
  have hp1 := get_set (y := .cells (s.take n).2.cur) hp
  have hlt : p < H.length := by
    by_cases c : p < H.length
    · exact c
    · rw [List.getElem?_eq_none (by omega)] at hp; simp at hp
  simp only [go_sem, ↓reduceIte, reduceCtorEq, Nat.reduceLT, Nat.reduceEqDiff, Nat.reduceBEq, Nat.reduceAdd, Nat.reduceMul, Nat.reduceSub, Nat.reduceLeDiff, Int.reduceNeg, Int.reduceLT, Int.reduceLE, Int.reduceEq, Int.reduceAdd, Int.reduceToNat]
  refine New_spec (by omega) ?_
  generalize s.take n = r at h hp1 ⊢
  obtain ⟨l, s1⟩ := r
  have hp2 : (H.set p (.cells s1.cur) ++ [.cells (CS.mk l 0 0).cur])[p]? = some (.cells s1.cur) := by
    rw [List.getElem?_append_left (by simp; omega)]; exact hp1
  have hp3 : (H.set p (.cells s1.cur) ++ [.cells (CS.mk l 0 0).cur])[H.length]? = some (.cells (CS.mk l 0 0).cur) := by
    rw [List.getElem?_append_right (by simp)]; simp
  rw [List.length_set]
  simp only at h ⊢
  generalize hH1 : H.set p _ ++ _ = H1 at hp2 hp3 ⊢
  ((try simp only [go_sem, ↓reduceIte, reduceCtorEq, Nat.reduceLT, Nat.reduceEqDiff, Nat.reduceBEq, Nat.reduceAdd, Nat.reduceMul, Nat.reduceSub, Nat.reduceLeDiff, Int.reduceNeg, Int.reduceLT, Int.reduceLE, Int.reduceEq, Int.reduceAdd, Int.reduceToNat]); repeat ((first | refine AW.seq ?_ | refine AW.region env_ok ?_ | refine AW.region envR_ok ?_ | refine AW.skip ?_ | refine AW.block ?_ | refine AW.exit ?_ | refine AW.ret ?_ | (refine AW.cond (b := true) ?_ ?_; simp only [ev, upd, ↓reduceIte, Nat.reduceEqDiff]; rw [if_pos rfl]) | (refine AW.cond (b := false) ?_ ?_; simp only [ev, upd, ↓reduceIte, Nat.reduceEqDiff]; rw [if_neg Bool.false_ne_true]) | fail) <;> try simp only [go_sem, ↓reduceIte, reduceCtorEq, Nat.reduceLT, Nat.reduceEqDiff, Nat.reduceBEq, Nat.reduceAdd, Nat.reduceMul, Nat.reduceSub, Nat.reduceLeDiff, Int.reduceNeg, Int.reduceLT, Int.reduceLE, Int.reduceEq, Int.reduceAdd, Int.reduceToNat]))
  refine Err_spec hp2 ?_
  ((try simp only [go_sem, ↓reduceIte, reduceCtorEq, Nat.reduceLT, Nat.reduceEqDiff, Nat.reduceBEq, Nat.reduceAdd, Nat.reduceMul, Nat.reduceSub, Nat.reduceLeDiff, Int.reduceNeg, Int.reduceLT, Int.reduceLE, Int.reduceEq, Int.reduceAdd, Int.reduceToNat, hp3]); repeat ((first | refine AW.seq ?_ | refine AW.region env_ok ?_ | refine AW.region envR_ok ?_ | refine AW.skip ?_ | refine AW.block ?_ | refine AW.exit ?_ | refine AW.ret ?_ | (refine AW.cond (b := true) ?_ ?_; simp only [ev, upd, ↓reduceIte, Nat.reduceEqDiff]; rw [if_pos rfl]) | (refine AW.cond (b := false) ?_ ?_; simp only [ev, upd, ↓reduceIte, Nat.reduceEqDiff]; rw [if_neg Bool.false_ne_true]) | fail) <;> try simp only [go_sem, ↓reduceIte, reduceCtorEq, Nat.reduceLT, Nat.reduceEqDiff, Nat.reduceBEq, Nat.reduceAdd, Nat.reduceMul, Nat.reduceSub, Nat.reduceLeDiff, Int.reduceNeg, Int.reduceLT, Int.reduceLE, Int.reduceEq, Int.reduceAdd, Int.reduceToNat, hp3]))
  refine .inl ?_
  rw [← hH1, List.set_append_right _ _ (by simp), List.length_set, Nat.sub_self]
  exact h

/-- The parts as an array of ten. -/
def pA (l : List Nat) : List A := (l ++ List.replicate (10 - l.length) 0).map fun (x : Nat) => V.int .u8 x
theorem pA_len {l : List Nat} (h : l.length ≤ 10) : (pA l).length = 10 := by simp [pA]; omega
theorem pA_put {l : List Nat} (h : l.length < 10) (x : Nat) : (pA l).take l.length ++ [V.int .u8 (x : Int)] ++ (pA l).drop (l.length + 1) = pA (l ++ [x]) := by
  obtain ⟨k, hk⟩ : ∃ k, 10 - l.length = k + 1 := ⟨9 - l.length, by omega⟩
  simp only [pA, hk, List.replicate_succ, List.length_append, List.length_cons, List.length_nil, show 10 - (l.length + (0 + 1)) = k by omega, List.map_append, List.map_cons, List.map_nil]
  rw [List.take_append_of_le_length (by simp), List.take_of_length_le (by simp), List.drop_append, List.drop_of_length_le (by simp)]
  simp
theorem pA_flagless (l : List Nat) : flaglessL (pA l) = true := by
  rw [flaglessL_all]; simp only [pA, List.all_eq_true, List.mem_map]; rintro _ ⟨x, _, rfl⟩; rfl
theorem pA_low (n : Nat) (l : List Nat) : lowL n (pA l) = true := by
  rw [lowL_all]; simp only [pA, List.all_eq_true, List.mem_map]; rintro _ ⟨x, _, rfl⟩; rfl
theorem pA_solid (l : List Nat) : (pA l).all solid = true := by
  simp only [pA, List.all_eq_true, List.mem_map]; rintro _ ⟨x, _, rfl⟩; rfl

theorem pA_take {l : List Nat} (h : l.length ≤ 10) : (pA l).take 10 = pA l := List.take_of_length_le (by rw [pA_len h]; omega)
theorem pA_drop {l : List Nat} (h : l.length ≤ 10) : (pA l).drop 10 = [] := List.drop_of_length_le (by rw [pA_len h]; omega)
theorem pA_mapl {l : List Nat} : (pA l).map lv1 = pA l := by
  have h : ∀ v ∈ pA l, lv1 v = v := by
    simp only [pA, List.mem_map]; rintro _ ⟨x, _, rfl⟩; rfl
  exact (List.map_congr_left h).trans (List.map_id' _)
attribute [go_sem] pA_flagless pA_low pA_solid pA_mapl
theorem toNat0 (n : Nat) : (0 : Nat) + (n : Int).toNat * 1 = n := by omega

def cat7 (l : List Nat) : Option (List Nat) × CS → Option (List Nat) × CS
  | (some m, s) => (some (l ++ m), s)
  | (none, s) => (none, s)
theorem cat7_cat (l m : List Nat) (q : Option (List Nat) × CS) : cat7 l (cat7 m q) = cat7 (l ++ m) q := by
  obtain ⟨r, s⟩ := q; cases r <;> simp [cat7]
theorem cat7_nil (q : Option (List Nat) × CS) : cat7 [] q = q := by
  obtain ⟨r, s⟩ := q; cases r <;> simp [cat7]
theorem seven_succ (k : Nat) (s : CS) (e : (s.take 1).2.err = 0) (h : ¬ le (s.take 1).1 < 128) : seven (k + 1) s = cat7 [le (s.take 1).1 % 128] (seven k (s.take 1).2) := by
  simp only [seven, if_pos e, if_neg h]
  generalize seven k (s.take 1).2 = q
  obtain ⟨r, s2⟩ := q; cases r <;> rfl
theorem take_fst {s : CS} {n : Nat} (e : (s.take n).2.err = 0) : (s.take n).1.length = n := by
  revert e; unfold CS.take; split
  · split
    · intro _; simp; omega
    · simp
  · rename_i h; intro e; exact absurd e h

theorem set_app {H : Heap} {p : Nat} (hp : p < H.length) (x y : Ob Unit) (z : Ob Unit) : (H.set p x ++ [z]).set p y = H.set p y ++ [z] := by
  rw [List.set_append_left _ _ (by simp; omega), List.set_set]
theorem set_end (H : Heap) (p : Nat) (x y : Ob Unit) (z : Ob Unit) : (H.set p x ++ [z]).set H.length y = H.set p x ++ [y] := by
  rw [List.set_append_right _ _ (by simp), List.length_set, Nat.sub_self]; rfl
theorem get_app {H : Heap} {p : Nat} (hp : p < H.length) (x : Ob Unit) (z : Ob Unit) : (H.set p x ++ [z])[p]? = some x := by
  rw [List.getElem?_append_left (by simp; omega)]; simp [hp]
theorem get_end (H : Heap) (p : Nat) (x : Ob Unit) (z : Ob Unit) : (H.set p x ++ [z])[H.length]? = some z := by
  rw [List.getElem?_append_right (by simp)]; simp
theorem cut_end (H : Heap) (p : Nat) (x : Ob Unit) (z : Ob Unit) : (H.set p x ++ [z]).take H.length = H.set p x := by
  rw [List.take_append_of_le_length (by simp), List.take_of_length_le (by simp)]
theorem lt_of_get {H : Heap} {p : Nat} {x : Ob Unit} (hp : H[p]? = some x) : p < H.length := by
  by_cases c : p < H.length
  · exact c
  · rw [List.getElem?_eq_none (by omega)] at hp; simp at hp

theorem seven_spec (hs : s.Ok) (hp : H[p]? = some (.cells s.cur))
    (h1 : ∀ l, (seven 10 s).1 = some l → Q (.tup [.agg (pA l), .int .i64 l.length, .bool true]) (H.set p (.cells (seven 10 s).2.cur)))
    (h2 : ∀ l, l.length ≤ 10 → (seven 10 s).1 = none → Q (.tup [.agg (pA l), .int .i64 0, .bool false]) (H.set p (.cells (seven 10 s).2.cur))) :
    AC Try.prog 58 [.ptr (some (p, 0))] H Q := by
  have hlt := lt_of_get hp
  refine AC.enter (E := env Try.prog 28 (fun _ => .copy) (fun _ => false)) env_ok Try.func58 rfl rfl rfl (by simp only [List.length_cons, List.length_nil]; exact of_decide_eq_true rfl) ?_
  ((try simp only [go_sem, ↓reduceIte, reduceCtorEq, Nat.reduceLT, Nat.reduceEqDiff, Nat.reduceBEq, Nat.reduceAdd, Nat.reduceMul, Nat.reduceSub, Nat.reduceLeDiff, Int.reduceNeg, Int.reduceLT, Int.reduceLE, Int.reduceEq, Int.reduceAdd, Int.reduceToNat]); repeat ((first | refine AW.seq ?_ | refine AW.region env_ok ?_ | refine AW.region envR_ok ?_ | refine AW.skip ?_ | refine AW.block ?_ | refine AW.exit ?_ | refine AW.ret ?_ | (refine AW.cond (b := true) ?_ ?_; simp only [ev, upd, ↓reduceIte, Nat.reduceEqDiff]; rw [if_pos rfl]) | (refine AW.cond (b := false) ?_ ?_; simp only [ev, upd, ↓reduceIte, Nat.reduceEqDiff]; rw [if_neg Bool.false_ne_true]) | fail) <;> try simp only [go_sem, ↓reduceIte, reduceCtorEq, Nat.reduceLT, Nat.reduceEqDiff, Nat.reduceBEq, Nat.reduceAdd, Nat.reduceMul, Nat.reduceSub, Nat.reduceLeDiff, Int.reduceNeg, Int.reduceLT, Int.reduceLE, Int.reduceEq, Int.reduceAdd, Int.reduceToNat]))
  refine AW.loop (fun st => ∃ l s1, l.length ≤ 10 ∧ (CS.Ok s1) ∧ seven 10 s = cat7 l (seven (10 - l.length) s1) ∧ st.H = H.set p (.cells s1.cur) ++ [.cells (pA l)] ∧ st.σ 3 = .int .i64 l.length ∧ st.σ 2 = .ptr (some (H.length, 0)) ∧ st.σ 0 = .ptr (some (p, 0)))
    (fun st => match st.σ 3 with | .int _ i => 10 - i.toNat | _ => 0) ⟨[], s, by simp, hs, (cat7_nil _).symm, by rw [set_same hp]; rfl, rfl, rfl, rfl⟩ ?_
  rintro ⟨σ, H2⟩ ⟨l, s1, hl, hs1, h7, rfl, h3, h2', h0⟩
  simp only at h3 h2' h0
  ((try simp only [go_sem, ↓reduceIte, reduceCtorEq, Nat.reduceLT, Nat.reduceEqDiff, Nat.reduceBEq, Nat.reduceAdd, Nat.reduceMul, Nat.reduceSub, Nat.reduceLeDiff, Int.reduceNeg, Int.reduceLT, Int.reduceLE, Int.reduceEq, Int.reduceAdd, Int.reduceToNat, h3]); repeat ((first | refine AW.seq ?_ | refine AW.region env_ok ?_ | refine AW.region envR_ok ?_ | refine AW.skip ?_ | refine AW.block ?_ | refine AW.exit ?_ | refine AW.ret ?_ | (refine AW.cond (b := true) ?_ ?_; simp only [ev, upd, ↓reduceIte, Nat.reduceEqDiff]; rw [if_pos rfl]) | (refine AW.cond (b := false) ?_ ?_; simp only [ev, upd, ↓reduceIte, Nat.reduceEqDiff]; rw [if_neg Bool.false_ne_true]) | fail) <;> try simp only [go_sem, ↓reduceIte, reduceCtorEq, Nat.reduceLT, Nat.reduceEqDiff, Nat.reduceBEq, Nat.reduceAdd, Nat.reduceMul, Nat.reduceSub, Nat.reduceLeDiff, Int.reduceNeg, Int.reduceLT, Int.reduceLE, Int.reduceEq, Int.reduceAdd, Int.reduceToNat, h3]))
  (refine AW.cond rfl ?_; (try simp only [Bool.not_eq_true', decide_eq_false_iff_not, decide_eq_true_eq, Bool.false_eq_true, Bool.and_eq_true, Bool.or_eq_true, if_true, if_false]); split <;> rename_i e)
  · ((try simp only [go_sem, ↓reduceIte, reduceCtorEq, Nat.reduceLT, Nat.reduceEqDiff, Nat.reduceBEq, Nat.reduceAdd, Nat.reduceMul, Nat.reduceSub, Nat.reduceLeDiff, Int.reduceNeg, Int.reduceLT, Int.reduceLE, Int.reduceEq, Int.reduceAdd, Int.reduceToNat, h3, h2', h0]); repeat ((first | refine AW.seq ?_ | refine AW.region env_ok ?_ | refine AW.region envR_ok ?_ | refine AW.skip ?_ | refine AW.block ?_ | refine AW.exit ?_ | refine AW.ret ?_ | (refine AW.cond (b := true) ?_ ?_; simp only [ev, upd, ↓reduceIte, Nat.reduceEqDiff]; rw [if_pos rfl]) | (refine AW.cond (b := false) ?_ ?_; simp only [ev, upd, ↓reduceIte, Nat.reduceEqDiff]; rw [if_neg Bool.false_ne_true]) | fail) <;> try simp only [go_sem, ↓reduceIte, reduceCtorEq, Nat.reduceLT, Nat.reduceEqDiff, Nat.reduceBEq, Nat.reduceAdd, Nat.reduceMul, Nat.reduceSub, Nat.reduceLeDiff, Int.reduceNeg, Int.reduceLT, Int.reduceLE, Int.reduceEq, Int.reduceAdd, Int.reduceToNat, h3, h2', h0]))
    refine U8_spec hs1 (get_app hlt _ _) ?_
    rw [set_app hlt]
    ((try simp only [go_sem, ↓reduceIte, reduceCtorEq, Nat.reduceLT, Nat.reduceEqDiff, Nat.reduceBEq, Nat.reduceAdd, Nat.reduceMul, Nat.reduceSub, Nat.reduceLeDiff, Int.reduceNeg, Int.reduceLT, Int.reduceLE, Int.reduceEq, Int.reduceAdd, Int.reduceToNat, h3, h2', h0]); repeat ((first | refine AW.seq ?_ | refine AW.region env_ok ?_ | refine AW.region envR_ok ?_ | refine AW.skip ?_ | refine AW.block ?_ | refine AW.exit ?_ | refine AW.ret ?_ | (refine AW.cond (b := true) ?_ ?_; simp only [ev, upd, ↓reduceIte, Nat.reduceEqDiff]; rw [if_pos rfl]) | (refine AW.cond (b := false) ?_ ?_; simp only [ev, upd, ↓reduceIte, Nat.reduceEqDiff]; rw [if_neg Bool.false_ne_true]) | fail) <;> try simp only [go_sem, ↓reduceIte, reduceCtorEq, Nat.reduceLT, Nat.reduceEqDiff, Nat.reduceBEq, Nat.reduceAdd, Nat.reduceMul, Nat.reduceSub, Nat.reduceLeDiff, Int.reduceNeg, Int.reduceLT, Int.reduceLE, Int.reduceEq, Int.reduceAdd, Int.reduceToNat, h3, h2', h0]))
    refine Err_spec (get_app hlt _ _) ?_
    ((try simp only [go_sem, ↓reduceIte, reduceCtorEq, Nat.reduceLT, Nat.reduceEqDiff, Nat.reduceBEq, Nat.reduceAdd, Nat.reduceMul, Nat.reduceSub, Nat.reduceLeDiff, Int.reduceNeg, Int.reduceLT, Int.reduceLE, Int.reduceEq, Int.reduceAdd, Int.reduceToNat, h3, h2', h0]); repeat ((first | refine AW.seq ?_ | refine AW.region env_ok ?_ | refine AW.region envR_ok ?_ | refine AW.skip ?_ | refine AW.block ?_ | refine AW.exit ?_ | refine AW.ret ?_ | (refine AW.cond (b := true) ?_ ?_; simp only [ev, upd, ↓reduceIte, Nat.reduceEqDiff]; rw [if_pos rfl]) | (refine AW.cond (b := false) ?_ ?_; simp only [ev, upd, ↓reduceIte, Nat.reduceEqDiff]; rw [if_neg Bool.false_ne_true]) | fail) <;> try simp only [go_sem, ↓reduceIte, reduceCtorEq, Nat.reduceLT, Nat.reduceEqDiff, Nat.reduceBEq, Nat.reduceAdd, Nat.reduceMul, Nat.reduceSub, Nat.reduceLeDiff, Int.reduceNeg, Int.reduceLT, Int.reduceLE, Int.reduceEq, Int.reduceAdd, Int.reduceToNat, h3, h2', h0]))
    (refine AW.cond rfl ?_; (try simp only [Bool.not_eq_true', decide_eq_false_iff_not, decide_eq_true_eq, Bool.false_eq_true, Bool.and_eq_true, Bool.or_eq_true, if_true, if_false]); split <;> rename_i e2)
    · ((try simp only [go_sem, ↓reduceIte, reduceCtorEq, Nat.reduceLT, Nat.reduceEqDiff, Nat.reduceBEq, Nat.reduceAdd, Nat.reduceMul, Nat.reduceSub, Nat.reduceLeDiff, Int.reduceNeg, Int.reduceLT, Int.reduceLE, Int.reduceEq, Int.reduceAdd, Int.reduceToNat, h2', get_end, pA_take hl, pA_len hl, pA_drop hl, set_end, cut_end]); repeat ((first | refine AW.seq ?_ | refine AW.region env_ok ?_ | refine AW.region envR_ok ?_ | refine AW.skip ?_ | refine AW.block ?_ | refine AW.exit ?_ | refine AW.ret ?_ | (refine AW.cond (b := true) ?_ ?_; simp only [ev, upd, ↓reduceIte, Nat.reduceEqDiff]; rw [if_pos rfl]) | (refine AW.cond (b := false) ?_ ?_; simp only [ev, upd, ↓reduceIte, Nat.reduceEqDiff]; rw [if_neg Bool.false_ne_true]) | fail) <;> try simp only [go_sem, ↓reduceIte, reduceCtorEq, Nat.reduceLT, Nat.reduceEqDiff, Nat.reduceBEq, Nat.reduceAdd, Nat.reduceMul, Nat.reduceSub, Nat.reduceLeDiff, Int.reduceNeg, Int.reduceLT, Int.reduceLE, Int.reduceEq, Int.reduceAdd, Int.reduceToNat, h2', get_end, pA_take hl, pA_len hl, pA_drop hl, set_end, cut_end]))
      refine .inr ?_
      have h7' : seven (10 - l.length) s1 = (none, (s1.take 1).2) := by
        rw [show 10 - l.length = (9 - l.length) + 1 by omega]; simp only [seven, if_neg e2]
      rw [h7', cat7] at h7
      have := h2 l hl (by rw [h7])
      rw [h7] at this
      exact this
    · have hx := le1 s1
      have e2' : (s1.take 1).2.err = 0 := by omega
      have hl1 : (l ++ [le (s1.take 1).1 % 128]).length ≤ 10 := by simp; omega
      have h7a : seven (10 - l.length) s1 = if le (s1.take 1).1 < 128 then (some [le (s1.take 1).1], (s1.take 1).2) else cat7 [le (s1.take 1).1 % 128] (seven (9 - l.length) (s1.take 1).2) := by
        rw [show 10 - l.length = (9 - l.length) + 1 by omega]
        split
        · rename_i c; simp only [seven, if_pos e2', if_pos c]
        · rename_i c; exact seven_succ _ _ e2' c
      ((try simp (disch := omega) only [go_sem, ↓reduceIte, reduceCtorEq, Nat.reduceLT, Nat.reduceEqDiff, Nat.reduceBEq, Nat.reduceAdd, Nat.reduceMul, Nat.reduceSub, Nat.reduceLeDiff, Int.reduceNeg, Int.reduceLT, Int.reduceLE, Int.reduceEq, Int.reduceAdd, Int.reduceToNat, IntWalk.i64_in, IntWalk.u64_in, IntWalk.u8_in, if_pos, if_neg, Bool.and_eq_true, decide_eq_true_eq, h3, h2', h0, and127 (a := le (s1.take 1).1) (by omega), get_end, pA_len hl, pA_put (l := l) (by omega), set_end]); repeat ((first | refine AW.seq ?_ | refine AW.region env_ok ?_ | refine AW.region envR_ok ?_ | refine AW.skip ?_ | refine AW.block ?_ | refine AW.exit ?_ | refine AW.ret ?_ | (refine AW.cond (b := true) ?_ ?_; simp only [ev, upd, ↓reduceIte, Nat.reduceEqDiff]; rw [if_pos rfl]) | (refine AW.cond (b := false) ?_ ?_; simp only [ev, upd, ↓reduceIte, Nat.reduceEqDiff]; rw [if_neg Bool.false_ne_true]) | fail) <;> try simp (disch := omega) only [go_sem, ↓reduceIte, reduceCtorEq, Nat.reduceLT, Nat.reduceEqDiff, Nat.reduceBEq, Nat.reduceAdd, Nat.reduceMul, Nat.reduceSub, Nat.reduceLeDiff, Int.reduceNeg, Int.reduceLT, Int.reduceLE, Int.reduceEq, Int.reduceAdd, Int.reduceToNat, IntWalk.i64_in, IntWalk.u64_in, IntWalk.u8_in, if_pos, if_neg, Bool.and_eq_true, decide_eq_true_eq, h3, h2', h0, and127 (a := le (s1.take 1).1) (by omega), get_end, pA_len hl, pA_put (l := l) (by omega), set_end]))
      (refine AW.cond rfl ?_; (try simp only [Bool.not_eq_true', decide_eq_false_iff_not, decide_eq_true_eq, Bool.false_eq_true, Bool.and_eq_true, Bool.or_eq_true, if_true, if_false]); split <;> rename_i e3)
      · ((try simp only [go_sem, ↓reduceIte, reduceCtorEq, Nat.reduceLT, Nat.reduceEqDiff, Nat.reduceBEq, Nat.reduceAdd, Nat.reduceMul, Nat.reduceSub, Nat.reduceLeDiff, Int.reduceNeg, Int.reduceLT, Int.reduceLE, Int.reduceEq, Int.reduceAdd, Int.reduceToNat, h2', get_end, pA_take hl1, pA_len hl1, pA_drop hl1, set_end, cut_end]); repeat ((first | refine AW.seq ?_ | refine AW.region env_ok ?_ | refine AW.region envR_ok ?_ | refine AW.skip ?_ | refine AW.block ?_ | refine AW.exit ?_ | refine AW.ret ?_ | (refine AW.cond (b := true) ?_ ?_; simp only [ev, upd, ↓reduceIte, Nat.reduceEqDiff]; rw [if_pos rfl]) | (refine AW.cond (b := false) ?_ ?_; simp only [ev, upd, ↓reduceIte, Nat.reduceEqDiff]; rw [if_neg Bool.false_ne_true]) | fail) <;> try simp only [go_sem, ↓reduceIte, reduceCtorEq, Nat.reduceLT, Nat.reduceEqDiff, Nat.reduceBEq, Nat.reduceAdd, Nat.reduceMul, Nat.reduceSub, Nat.reduceLeDiff, Int.reduceNeg, Int.reduceLT, Int.reduceLE, Int.reduceEq, Int.reduceAdd, Int.reduceToNat, h2', get_end, pA_take hl1, pA_len hl1, pA_drop hl1, set_end, cut_end]))
        refine .inr ?_
        rw [h7a, if_pos (by omega), cat7] at h7
        have := h1 _ (by rw [h7])
        rw [h7] at this
        simp only [List.length_append, List.length_cons, List.length_nil] at this
        rw [show le (s1.take 1).1 % 128 = le (s1.take 1).1 by omega]
        exact this
      · ((try simp (disch := omega) only [go_sem, ↓reduceIte, reduceCtorEq, Nat.reduceLT, Nat.reduceEqDiff, Nat.reduceBEq, Nat.reduceAdd, Nat.reduceMul, Nat.reduceSub, Nat.reduceLeDiff, Int.reduceNeg, Int.reduceLT, Int.reduceLE, Int.reduceEq, Int.reduceAdd, Int.reduceToNat, IntWalk.i64_in, IntWalk.u64_in, IntWalk.u8_in, if_pos, if_neg, Bool.and_eq_true, decide_eq_true_eq, h3]); repeat ((first | refine AW.seq ?_ | refine AW.region env_ok ?_ | refine AW.region envR_ok ?_ | refine AW.skip ?_ | refine AW.block ?_ | refine AW.exit ?_ | refine AW.ret ?_ | (refine AW.cond (b := true) ?_ ?_; simp only [ev, upd, ↓reduceIte, Nat.reduceEqDiff]; rw [if_pos rfl]) | (refine AW.cond (b := false) ?_ ?_; simp only [ev, upd, ↓reduceIte, Nat.reduceEqDiff]; rw [if_neg Bool.false_ne_true]) | fail) <;> try simp (disch := omega) only [go_sem, ↓reduceIte, reduceCtorEq, Nat.reduceLT, Nat.reduceEqDiff, Nat.reduceBEq, Nat.reduceAdd, Nat.reduceMul, Nat.reduceSub, Nat.reduceLeDiff, Int.reduceNeg, Int.reduceLT, Int.reduceLE, Int.reduceEq, Int.reduceAdd, Int.reduceToNat, IntWalk.i64_in, IntWalk.u64_in, IntWalk.u8_in, if_pos, if_neg, Bool.and_eq_true, decide_eq_true_eq, h3]))
        rw [h7a, if_neg (by omega)] at h7
        refine ⟨⟨l ++ [le (s1.take 1).1 % 128], (s1.take 1).2, hl1, hs1.take 1, ?_, rfl, ?_, h2', h0⟩, by omega⟩
        · rw [h7, cat7_cat]; congr 2; rw [List.length_append, List.length_cons, List.length_nil]; omega
        · simp
  · ((try simp only [go_sem, ↓reduceIte, reduceCtorEq, Nat.reduceLT, Nat.reduceEqDiff, Nat.reduceBEq, Nat.reduceAdd, Nat.reduceMul, Nat.reduceSub, Nat.reduceLeDiff, Int.reduceNeg, Int.reduceLT, Int.reduceLE, Int.reduceEq, Int.reduceAdd, Int.reduceToNat, h0]); repeat ((first | refine AW.seq ?_ | refine AW.region env_ok ?_ | refine AW.region envR_ok ?_ | refine AW.skip ?_ | refine AW.block ?_ | refine AW.exit ?_ | refine AW.ret ?_ | (refine AW.cond (b := true) ?_ ?_; simp only [ev, upd, ↓reduceIte, Nat.reduceEqDiff]; rw [if_pos rfl]) | (refine AW.cond (b := false) ?_ ?_; simp only [ev, upd, ↓reduceIte, Nat.reduceEqDiff]; rw [if_neg Bool.false_ne_true]) | fail) <;> try simp only [go_sem, ↓reduceIte, reduceCtorEq, Nat.reduceLT, Nat.reduceEqDiff, Nat.reduceBEq, Nat.reduceAdd, Nat.reduceMul, Nat.reduceSub, Nat.reduceLeDiff, Int.reduceNeg, Int.reduceLT, Int.reduceLE, Int.reduceEq, Int.reduceAdd, Int.reduceToNat, h0]))
    refine Fail_spec (get_app hlt _ _) ?_
    rw [set_app hlt]
    ((try simp only [go_sem, ↓reduceIte, reduceCtorEq, Nat.reduceLT, Nat.reduceEqDiff, Nat.reduceBEq, Nat.reduceAdd, Nat.reduceMul, Nat.reduceSub, Nat.reduceLeDiff, Int.reduceNeg, Int.reduceLT, Int.reduceLE, Int.reduceEq, Int.reduceAdd, Int.reduceToNat, h2', get_end, pA_take hl, pA_len hl, pA_drop hl, set_end, cut_end]); repeat ((first | refine AW.seq ?_ | refine AW.region env_ok ?_ | refine AW.region envR_ok ?_ | refine AW.skip ?_ | refine AW.block ?_ | refine AW.exit ?_ | refine AW.ret ?_ | (refine AW.cond (b := true) ?_ ?_; simp only [ev, upd, ↓reduceIte, Nat.reduceEqDiff]; rw [if_pos rfl]) | (refine AW.cond (b := false) ?_ ?_; simp only [ev, upd, ↓reduceIte, Nat.reduceEqDiff]; rw [if_neg Bool.false_ne_true]) | fail) <;> try simp only [go_sem, ↓reduceIte, reduceCtorEq, Nat.reduceLT, Nat.reduceEqDiff, Nat.reduceBEq, Nat.reduceAdd, Nat.reduceMul, Nat.reduceSub, Nat.reduceLeDiff, Int.reduceNeg, Int.reduceLT, Int.reduceLE, Int.reduceEq, Int.reduceAdd, Int.reduceToNat, h2', get_end, pA_take hl, pA_len hl, pA_drop hl, set_end, cut_end]))
    refine .inr ?_
    rw [show 10 - l.length = 0 by omega, seven, cat7] at h7
    have := h2 l hl (by rw [h7])
    rw [h7] at this
    exact this
end
end Go.Ab
end
