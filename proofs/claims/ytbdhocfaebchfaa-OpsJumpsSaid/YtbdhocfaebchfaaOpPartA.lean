/- Contracts of the functions that the law reaches. -/
import Derived.Test.YtbdhocfaebchfaaOpLAbWalk
import Derived.Test.YtbdhocfaebchfaaProg
import Derived.Test.YtbdhocfaebchfaaOpLAbSet
import Derived.IntWalk
import Derived.Test.YtbdhocfaebchfaaOpLAbLoop3
import Derived.Laws.Bits64
import Derived.Laws.BitsLemmas
set_option linter.all false
set_option linter.unusedSimpArgs false
set_option linter.unusedVariables false
set_option linter.unnecessarySimpa false
section
/- The types that the code names, out of the program. -/
namespace Go.Ab
open V Go.Proofs
theorem T2 : tyFrom Try.prog 2 = some ⟨.int .i64, 1, 8, .int .i64 0, true⟩ := by kernel_rfl
theorem T3 : tyFrom Try.prog 3 = some ⟨.int .i64, 1, 8, .int .i64 0, true⟩ := by kernel_rfl
theorem T4 : tyFrom Try.prog 4 = some ⟨.bool, 1, 1, .bool false, true⟩ := by kernel_rfl
theorem T5 : tyFrom Try.prog 5 = some ⟨.int .u8, 1, 1, .int .u8 0, true⟩ := by kernel_rfl
theorem T9 : tyFrom Try.prog 9 = some ⟨.str, 1, 16, .str ⟨#[]⟩, true⟩ := by kernel_rfl
theorem T22 : tyFrom Try.prog 22 = some ⟨.sl 4, 1, 24, .sl [] (some 0) (), true⟩ := by kernel_rfl
theorem T24 : tyFrom Try.prog 24 = some ⟨.sl 5, 1, 24, .sl [] (some 0) (), true⟩ := by kernel_rfl
theorem T25 : tyFrom Try.prog 25 = some ⟨.int .u32, 1, 4, .int .u32 0, true⟩ := by kernel_rfl
theorem T29 : tyFrom Try.prog 29 = some ⟨.sl 33, 1, 24, .sl [] (some 0) (), true⟩ := by kernel_rfl
theorem T31 : tyFrom Try.prog 31 = some ⟨.int .u64, 1, 8, .int .u64 0, true⟩ := by kernel_rfl
theorem T33 : tyFrom Try.prog 33 = some ⟨.st [(0, 3), (1, 31), (2, 31), (3, 24)], 4, 48, .agg [.int .i64 0, .int .u64 0, .int .u64 0, .sl [] (some 0) ()], true⟩ := by kernel_rfl
theorem T35 : tyFrom Try.prog 35 = some ⟨.int .i64, 1, 8, .int .i64 0, true⟩ := by kernel_rfl
theorem T46 : tyFrom Try.prog 46 = some ⟨.sl 101, 1, 24, .sl [] (some 0) (), true⟩ := by kernel_rfl
theorem T47 : tyFrom Try.prog 47 = some ⟨.sl 105, 1, 24, .sl [] (some 0) (), true⟩ := by kernel_rfl
theorem T49 : tyFrom Try.prog 49 = some ⟨.st [(0, 3), (1, 31), (2, 9), (3, 24), (4, 29), (5, 46), (6, 47)], 7, 128, .agg [.int .i64 0, .int .u64 0, .str ⟨#[]⟩, .sl [] (some 0) (), .sl [] (some 0) (), .sl [] (some 0) (), .sl [] (some 0) ()], true⟩ := by kernel_rfl
theorem T54 : tyFrom Try.prog 54 = some ⟨.sl 65, 1, 24, .sl [] (some 0) (), true⟩ := by kernel_rfl
theorem T55 : tyFrom Try.prog 55 = some ⟨.sl 68, 1, 24, .sl [] (some 0) (), true⟩ := by kernel_rfl
theorem T56 : tyFrom Try.prog 56 = some ⟨.sl 116, 1, 24, .sl [] (some 0) (), true⟩ := by kernel_rfl
theorem T57 : tyFrom Try.prog 57 = some ⟨.sl 118, 1, 24, .sl [] (some 0) (), true⟩ := by kernel_rfl
theorem T59 : tyFrom Try.prog 59 = some ⟨.st [(0, 54), (1, 55), (2, 56), (3, 57)], 4, 96, .agg [.sl [] (some 0) (), .sl [] (some 0) (), .sl [] (some 0) (), .sl [] (some 0) ()], true⟩ := by kernel_rfl
theorem T61 : tyFrom Try.prog 61 = some ⟨.sl 3, 1, 24, .sl [] (some 0) (), true⟩ := by kernel_rfl
theorem T65 : tyFrom Try.prog 65 = some ⟨.st [(0, 3), (1, 3), (2, 31), (3, 3)], 4, 32, .agg [.int .i64 0, .int .i64 0, .int .u64 0, .int .i64 0], true⟩ := by kernel_rfl
theorem T66 : tyFrom Try.prog 66 = some ⟨.sl 73, 1, 24, .sl [] (some 0) (), true⟩ := by kernel_rfl
theorem T68 : tyFrom Try.prog 68 = some ⟨.st [(0, 3), (1, 66), (2, 61)], 3, 56, .agg [.int .i64 0, .sl [] (some 0) (), .sl [] (some 0) ()], true⟩ := by kernel_rfl
theorem T69 : tyFrom Try.prog 69 = some ⟨.sl 31, 1, 24, .sl [] (some 0) (), true⟩ := by kernel_rfl
theorem T73 : tyFrom Try.prog 73 = some ⟨.st [(0, 3), (1, 49)], 8, 136, .agg [.int .i64 0, .int .i64 0, .int .u64 0, .str ⟨#[]⟩, .sl [] (some 0) (), .sl [] (some 0) (), .sl [] (some 0) (), .sl [] (some 0) ()], true⟩ := by kernel_rfl
theorem T74 : tyFrom Try.prog 74 = some ⟨.sl 77, 1, 24, .sl [] (some 0) (), true⟩ := by kernel_rfl
theorem T77 : tyFrom Try.prog 77 = some ⟨.st [(0, 9), (1, 3)], 2, 24, .agg [.str ⟨#[]⟩, .int .i64 0], true⟩ := by kernel_rfl
theorem T81 : tyFrom Try.prog 81 = some ⟨.ptr 126, 1, 8, .ptr none, true⟩ := by kernel_rfl
theorem T97 : tyFrom Try.prog 97 = some ⟨.int .u64, 1, 8, .int .u64 0, true⟩ := by kernel_rfl
theorem T101 : tyFrom Try.prog 101 = some ⟨.st [(0, 31), (1, 31)], 2, 16, .agg [.int .u64 0, .int .u64 0], true⟩ := by kernel_rfl
theorem T105 : tyFrom Try.prog 105 = some ⟨.st [(0, 101), (2, 4), (3, 29)], 4, 48, .agg [.int .u64 0, .int .u64 0, .bool false, .sl [] (some 0) ()], true⟩ := by kernel_rfl
theorem T110 : tyFrom Try.prog 110 = some ⟨.ptr 112, 1, 8, .ptr none, true⟩ := by kernel_rfl
theorem T112 : tyFrom Try.prog 112 = some ⟨.st [(0, 59), (4, 3), (5, 61), (6, 61)], 7, 152, .agg [.sl [] (some 0) (), .sl [] (some 0) (), .sl [] (some 0) (), .sl [] (some 0) (), .int .i64 0, .sl [] (some 0) (), .sl [] (some 0) ()], true⟩ := by kernel_rfl
theorem T116 : tyFrom Try.prog 116 = some ⟨.sl 147, 1, 24, .sl [] (some 0) (), true⟩ := by kernel_rfl
theorem T118 : tyFrom Try.prog 118 = some ⟨.sl 9, 1, 24, .sl [] (some 0) (), true⟩ := by kernel_rfl
theorem T126 : tyFrom Try.prog 126 = some ⟨.st [(0, 24), (1, 3), (2, 4), (3, 35)], 4, 48, .agg [.sl [] (some 0) (), .int .i64 0, .bool false, .int .i64 0], true⟩ := by kernel_rfl
theorem T147 : tyFrom Try.prog 147 = some ⟨.st [(0, 31), (1, 3), (2, 3), (3, 3), (4, 4), (5, 4), (6, 4), (7, 4), (8, 4), (9, 31), (10, 31)], 11, 56, .agg [.int .u64 0, .int .i64 0, .int .i64 0, .int .i64 0, .bool false, .bool false, .bool false, .bool false, .bool false, .int .u64 0, .int .u64 0], true⟩ := by kernel_rfl
theorem T171 : tyFrom Try.prog 171 = some ⟨.arr 10 5, 10, 10, .agg [.int .u8 0, .int .u8 0, .int .u8 0, .int .u8 0, .int .u8 0, .int .u8 0, .int .u8 0, .int .u8 0, .int .u8 0, .int .u8 0], true⟩ := by kernel_rfl
theorem T181 : tyFrom Try.prog 181 = some ⟨.fn, 1, 8, .nilFn, true⟩ := by kernel_rfl
theorem mixed : Try.prog.follows .mixedOrders = true := by kernel_rfl
theorem R2 : Try.f2.results.toList = [] := rfl
theorem R3 : Try.f3.results.toList = [.tmp 6] := rfl
theorem R4 : Try.f4.results.toList = [.tmp 4] := rfl
theorem R5 : Try.f5.results.toList = [.tmp 6] := rfl
theorem R6 : Try.f6.results.toList = [.tmp 4] := rfl
theorem R7 : Try.f7.results.toList = [.tmp 8] := rfl
theorem R8 : Try.f8.results.toList = [.tmp 2] := rfl
theorem R9 : Try.f9.results.toList = [.tmp 4] := rfl
theorem R10 : Try.f10.results.toList = [.tmp 0] := rfl
theorem R11 : Try.f11.results.toList = [.tmp 2] := rfl
theorem R12 : Try.f12.results.toList = [.tmp 2] := rfl
theorem R13 : Try.f13.results.toList = [.tmp 0] := rfl
theorem R14 : Try.f14.results.toList = [.tmp 4] := rfl
theorem R15 : Try.f15.results.toList = [.tmp 2] := rfl
theorem R16 : Try.f16.results.toList = [.tmp 2, .tmp 3] := rfl
theorem R17 : Try.f17.results.toList = [.tmp 2, .tmp 3] := rfl
theorem R18 : Try.f18.results.toList = [.tmp 4] := rfl
theorem R19 : Try.f19.results.toList = [.tmp 2, .tmp 3] := rfl
theorem R20 : Try.f20.results.toList = [.tmp 2] := rfl
theorem R21 : Try.f21.results.toList = [.tmp 2] := rfl
theorem R22 : Try.f22.results.toList = [.tmp 4] := rfl
theorem R23 : Try.f23.results.toList = [.tmp 4] := rfl
theorem R24 : Try.f24.results.toList = [.tmp 0] := rfl
theorem R25 : Try.f25.results.toList = [.tmp 6] := rfl
theorem R26 : Try.f26.results.toList = [.tmp 6] := rfl
theorem R27 : Try.f27.results.toList = [.tmp 4] := rfl
theorem R28 : Try.f28.results.toList = [.tmp 4] := rfl
theorem R29 : Try.f29.results.toList = [.tmp 2] := rfl
theorem R30 : Try.f30.results.toList = [.tmp 2, .tmp 3] := rfl
theorem R31 : Try.f31.results.toList = [.tmp 2] := rfl
theorem R32 : Try.f32.results.toList = [.tmp 4, .tmp 5] := rfl
theorem R33 : Try.f33.results.toList = [.tmp 2] := rfl
theorem R34 : Try.f34.results.toList = [.tmp 2] := rfl
theorem R35 : Try.f35.results.toList = [.tmp 2, .tmp 3] := rfl
theorem R36 : Try.f36.results.toList = [.tmp 2] := rfl
theorem R37 : Try.f37.results.toList = [.tmp 2] := rfl
theorem R38 : Try.f38.results.toList = [.tmp 2] := rfl
theorem R39 : Try.f39.results.toList = [.cell 2 33] := rfl
theorem R40 : Try.f40.results.toList = [.tmp 2] := rfl
theorem R41 : Try.f41.results.toList = [.tmp 4, .tmp 5] := rfl
theorem R42 : Try.f42.results.toList = [.tmp 6] := rfl
theorem R43 : Try.f43.results.toList = [.tmp 4] := rfl
theorem R44 : Try.f44.results.toList = [.tmp 4] := rfl
theorem R45 : Try.f45.results.toList = [.tmp 2] := rfl
theorem R46 : Try.f46.results.toList = [.tmp 4] := rfl
theorem R47 : Try.f47.results.toList = [.tmp 4] := rfl
theorem R48 : Try.f48.results.toList = [.tmp 4] := rfl
theorem R49 : Try.f49.results.toList = [.cell 2 59] := rfl
theorem R50 : Try.f50.results.toList = [.tmp 2] := rfl
theorem R51 : Try.f51.results.toList = [.tmp 2] := rfl
theorem R52 : Try.f52.results.toList = [.tmp 4] := rfl
theorem R53 : Try.f53.results.toList = [.tmp 2] := rfl
theorem R54 : Try.f54.results.toList = [.tmp 4] := rfl
theorem R55 : Try.f55.results.toList = [.tmp 2] := rfl
theorem R56 : Try.f56.results.toList = [.tmp 2] := rfl
theorem R57 : Try.f57.results.toList = [.tmp 2] := rfl
theorem R58 : Try.f58.results.toList = [.tmp 2] := rfl
theorem R59 : Try.f59.results.toList = [.tmp 4] := rfl
theorem R60 : Try.f60.results.toList = [.tmp 4] := rfl
theorem R61 : Try.f61.results.toList = [.tmp 4] := rfl
theorem R62 : Try.f62.results.toList = [.tmp 4] := rfl
theorem R63 : Try.f63.results.toList = [.tmp 4] := rfl
theorem R64 : Try.f64.results.toList = [.tmp 2] := rfl
theorem R65 : Try.f65.results.toList = [.tmp 4] := rfl
theorem R66 : Try.f66.results.toList = [.tmp 3] := rfl
theorem R67 : Try.f67.results.toList = [.tmp 6] := rfl
theorem R68 : Try.f68.results.toList = [.tmp 2] := rfl
theorem R69 : Try.f69.results.toList = [.tmp 2] := rfl
theorem R70 : Try.f70.results.toList = [.tmp 4] := rfl
theorem R71 : Try.f71.results.toList = [.tmp 2] := rfl
theorem R72 : Try.f72.results.toList = [.tmp 2] := rfl
theorem R73 : Try.f73.results.toList = [.tmp 4] := rfl
theorem R74 : Try.f74.results.toList = [.tmp 6] := rfl
theorem R75 : Try.f75.results.toList = [.tmp 2] := rfl
theorem R76 : Try.f76.results.toList = [.tmp 2] := rfl
theorem R77 : Try.f77.results.toList = [.tmp 4] := rfl
theorem R78 : Try.f78.results.toList = [.tmp 4] := rfl
theorem R79 : Try.f79.results.toList = [.tmp 6] := rfl
theorem R80 : Try.f80.results.toList = [.tmp 2] := rfl
theorem R81 : Try.f81.results.toList = [.tmp 2] := rfl
theorem R82 : Try.f82.results.toList = [.tmp 2] := rfl
theorem R83 : Try.f83.results.toList = [] := rfl
theorem R84 : Try.f84.results.toList = [.tmp 4] := rfl
theorem R85 : Try.f85.results.toList = [.tmp 2] := rfl
theorem R86 : Try.f86.results.toList = [.tmp 2] := rfl
theorem R87 : Try.f87.results.toList = [.tmp 2] := rfl
theorem R88 : Try.f88.results.toList = [.tmp 2] := rfl
theorem R89 : Try.f89.results.toList = [.tmp 4] := rfl
theorem R90 : Try.f90.results.toList = [.tmp 2] := rfl
theorem R91 : Try.f91.results.toList = [.tmp 2] := rfl
theorem R92 : Try.f92.results.toList = [.tmp 4] := rfl
theorem R93 : Try.f93.results.toList = [.tmp 4] := rfl
theorem R94 : Try.f94.results.toList = [.tmp 2] := rfl
theorem R95 : Try.f95.results.toList = [.tmp 2] := rfl
theorem R96 : Try.f96.results.toList = [.tmp 4] := rfl
theorem R97 : Try.f97.results.toList = [.tmp 5] := rfl
theorem R98 : Try.f98.results.toList = [.tmp 6] := rfl
theorem R99 : Try.f99.results.toList = [.tmp 4] := rfl
theorem R100 : Try.f100.results.toList = [.tmp 4] := rfl
theorem R101 : Try.f101.results.toList = [.tmp 6] := rfl
theorem R102 : Try.f102.results.toList = [.tmp 6] := rfl
theorem R103 : Try.f103.results.toList = [.tmp 4] := rfl
theorem R104 : Try.f104.results.toList = [.tmp 6] := rfl
theorem R105 : Try.f105.results.toList = [.tmp 4] := rfl
theorem R106 : Try.f106.results.toList = [.tmp 2] := rfl
theorem R107 : Try.f107.results.toList = [.tmp 2] := rfl
theorem R108 : Try.f108.results.toList = [.tmp 2] := rfl
theorem R109 : Try.f109.results.toList = [.cell 2 49] := rfl
theorem R110 : Try.f110.results.toList = [.tmp 2] := rfl
theorem R111 : Try.f111.results.toList = [.tmp 2] := rfl
theorem R112 : Try.f112.results.toList = [.tmp 2] := rfl
theorem R113 : Try.f113.results.toList = [.tmp 4] := rfl
theorem R114 : Try.f114.results.toList = [.tmp 4] := rfl
theorem R115 : Try.f115.results.toList = [.tmp 4] := rfl
theorem R116 : Try.f116.results.toList = [.tmp 6] := rfl
theorem R117 : Try.f117.results.toList = [.tmp 4] := rfl
theorem R118 : Try.f118.results.toList = [.tmp 10] := rfl
theorem R119 : Try.f119.results.toList = [.tmp 4] := rfl
theorem R120 : Try.f120.results.toList = [.tmp 4] := rfl
theorem R121 : Try.f121.results.toList = [.tmp 3] := rfl
theorem R122 : Try.f122.results.toList = [.tmp 4] := rfl
theorem R123 : Try.f123.results.toList = [.cell 4 49, .tmp 5] := rfl
theorem R124 : Try.f124.results.toList = [.tmp 2] := rfl
theorem R125 : Try.f125.results.toList = [.tmp 4] := rfl
theorem R126 : Try.f126.results.toList = [.tmp 4] := rfl
theorem R127 : Try.f127.results.toList = [.tmp 2] := rfl
theorem R128 : Try.f128.results.toList = [.tmp 4] := rfl
theorem R129 : Try.f129.results.toList = [.cell 2 171, .tmp 3, .tmp 4] := rfl
theorem R130 : Try.f130.results.toList = [.tmp 2] := rfl
theorem R131 : Try.f131.results.toList = [.tmp 4] := rfl
theorem R132 : Try.f132.results.toList = [.tmp 2] := rfl
theorem R133 : Try.f133.results.toList = [.tmp 2] := rfl
theorem R134 : Try.f134.results.toList = [.tmp 2] := rfl
theorem R135 : Try.f135.results.toList = [.tmp 2] := rfl
theorem R136 : Try.f136.results.toList = [.tmp 2] := rfl
theorem R137 : Try.f137.results.toList = [.tmp 4] := rfl
theorem R138 : Try.f138.results.toList = [.tmp 4] := rfl
theorem R139 : Try.f139.results.toList = [.tmp 4] := rfl
theorem R140 : Try.f140.results.toList = [.tmp 2] := rfl
theorem R141 : Try.f141.results.toList = [.tmp 2] := rfl
theorem R142 : Try.f142.results.toList = [.tmp 2] := rfl
theorem R144 : Try.f144.results.toList = [] := rfl
theorem R145 : Try.f145.results.toList = [] := rfl
instance : Glob where
  tab := fun b =>  none
  ok := by
    intro b cs h
    cases h
attribute [go_sem] T2 T3 T4 T5 T9 T22 T24 T25 T29 T31 T33 T35 T46 T47 T49 T54 T55 T56 T57 T59 T61 T65 T66 T68 T69 T73 T74 T77 T81 T97 T101 T105 T110 T112 T116 T118 T126 T147 T171 T181 R2 R3 R4 R5 R6 R7 R8 R9 R10 R11 R12 R13 R14 R15 R16 R17 R18 R19 R20 R21 R22 R23 R24 R25 R26 R27 R28 R29 R30 R31 R32 R33 R34 R35 R36 R37 R38 R39 R40 R41 R42 R43 R44 R45 R46 R47 R48 R49 R50 R51 R52 R53 R54 R55 R56 R57 R58 R59 R60 R61 R62 R63 R64 R65 R66 R67 R68 R69 R70 R71 R72 R73 R74 R75 R76 R77 R78 R79 R80 R81 R82 R83 R84 R85 R86 R87 R88 R89 R90 R91 R92 R93 R94 R95 R96 R97 R98 R99 R100 R101 R102 R103 R104 R105 R106 R107 R108 R109 R110 R111 R112 R113 R114 R115 R116 R117 R118 R119 R120 R121 R122 R123 R124 R125 R126 R127 R128 R129 R130 R131 R132 R133 R134 R135 R136 R137 R138 R139 R140 R141 R142 R144 R145
end Go.Ab
end

section
/- Bits of numbers: plain lemmas. -/
namespace Go.Ab
open V

theorem ofInt_nat {w a : Nat} : BitVec.ofInt w (a : Int) = BitVec.ofNat w a := by
  apply BitVec.eq_of_toNat_eq; simp [BitVec.toNat_ofInt, BitVec.toNat_ofNat]

theorem bits_or {a b : Nat} (ha : a < 18446744073709551616) (hb : b < 18446744073709551616) : bitsI .or .u64 (a : Int) (b : Int) = ((a ||| b : Nat) : Int) := by
  have h : a ||| b < 2 ^ 64 := Nat.or_lt_two_pow (by omega) (by omega)
  simp only [bitsI, ofInt_nat]
  rw [BitVec.toNat_or, BitVec.toNat_ofNat, BitVec.toNat_ofNat, show IntKind.u64.bits = 64 from rfl, Nat.mod_eq_of_lt (by omega), Nat.mod_eq_of_lt (by omega)]
  exact IntWalk.u64_in _ (by omega)
theorem bits_and {a b : Nat} (ha : a < 18446744073709551616) (hb : b < 18446744073709551616) : bitsI .and .u64 (a : Int) (b : Int) = ((a &&& b : Nat) : Int) := by
  have h : a &&& b ≤ a := Nat.and_le_left
  simp only [bitsI, ofInt_nat]
  rw [BitVec.toNat_and, BitVec.toNat_ofNat, BitVec.toNat_ofNat, show IntKind.u64.bits = 64 from rfl, Nat.mod_eq_of_lt (by omega), Nat.mod_eq_of_lt (by omega)]
  exact IntWalk.u64_in _ (by omega)

theorem and127 {a : Nat} (h : a < 18446744073709551616) : bitsI .and .u64 (a : Int) 127 = ((a % 128 : Nat) : Int) := by
  rw [show (127 : Int) = ((127 : Nat) : Int) from rfl, bits_and h (by omega), show (127 : Nat) = 2 ^ 7 - 1 from rfl, Nat.and_two_pow_sub_one_eq_mod]

/-- A number of bytes, the lowest first. -/
def le : List UInt8 → Nat
  | [] => 0
  | x :: l => x.toNat + 256 * le l
theorem le_lt (l : List UInt8) : le l < 256 ^ l.length := by
  induction l with
  | nil => simp [le]
  | cons x l ih => simp only [le, List.length_cons, Nat.pow_succ]; have := x.toNat_lt; omega
theorem le_append (l m : List UInt8) : le (l ++ m) = le l + 256 ^ l.length * le m := by
  induction l with
  | nil => simp [le]
  | cons x l ih => simp only [List.cons_append, le, ih, List.length_cons, Nat.pow_succ, Nat.mul_add, Nat.mul_assoc, Nat.mul_comm, Nat.mul_left_comm]; omega
theorem le_snoc (l : List UInt8) (x : UInt8) : le (l ++ [x]) = le l + x.toNat * 2 ^ (8 * l.length) := by
  rw [le_append, show (256 : Nat) = 2 ^ 8 from rfl, ← Nat.pow_mul]; simp [le, Nat.mul_comm]
theorem or_high {a b i : Nat} (h : a < 2 ^ i) : a ||| b * 2 ^ i = a + b * 2 ^ i := by
  rw [Nat.or_comm, ← Nat.shiftLeft_eq, Nat.add_comm]; exact (Nat.shiftLeft_add_eq_or_of_lt h b).symm
end Go.Ab
end

section
/- Package cursor: contracts. -/
namespace Go.Ab
open V Go.Proofs
set_option maxHeartbeats 4000000
set_option maxRecDepth 10000
set_option linter.unusedSimpArgs false
set_option linter.unusedVariables false

/-- Bytes, as values. -/
def bA (l : List UInt8) : List A := l.map byteA
theorem bA_flagless (l : List UInt8) : flaglessL (bA l) = true := by
  rw [flaglessL_all]; simp only [bA, List.all_eq_true, List.mem_map]; rintro _ ⟨x, _, rfl⟩; rfl
theorem bA_uni (l : List UInt8) : Uni 1 (bA l) = true := by
  simp only [Uni, bA, List.all_map, List.all_eq_true]; intro x _; rfl
theorem bA_length (l : List UInt8) : (bA l).length = l.length := by simp [bA]
theorem bA_slice (l : List UInt8) (i j : Nat) : List.drop i (List.take j (bA l)) = bA ((l.take j).drop i) := by simp [bA, List.map_drop, List.map_take]
theorem bA_strip (l : List UInt8) : stripL (bA l) = bA l := by
  induction l with
  | nil => rfl
  | cons x l ih => show V.strip (byteA x) :: stripL (bA l) = _; rw [ih]; rfl
theorem bA_share (l : List UInt8) : shareL (bA l) = bA l := by
  induction l with
  | nil => rfl
  | cons x l ih => show V.share (byteA x) :: shareL (bA l) = _; rw [ih]; rfl
theorem bA_low (n : Nat) (l : List UInt8) : lowL n (bA l) = true := by
  induction l with
  | nil => rfl
  | cons x l ih => show (V.low n (byteA x) && lowL n (bA l)) = true; rw [ih]; rfl
attribute [go_sem] bA_strip bA_share bA_low
attribute [go_sem] bA_flagless bA_uni bA_length bA_slice

/-- A cursor's state. -/
structure CS where
  b : List UInt8
  pos : Nat
  err : Int

def CS.Ok (s : CS) : Prop := s.pos ≤ s.b.length ∧ s.b.length < 4611686018427387904 ∧ 0 ≤ s.err ∧ s.err < 1000000
/-- A cursor's cells. -/
def CS.cur (s : CS) : List A := [.sl (bA s.b) none (), .int .i64 s.pos, .bool true, .int .i64 s.err]
theorem cur_len (s : CS) : s.cur.length = 4 := rfl
theorem cur_0 (s : CS) : s.cur[0]? = some (.sl (bA s.b) none ()) := rfl
theorem cur_1 (s : CS) : s.cur[1]? = some (.int .i64 s.pos) := rfl
theorem cur_2 (s : CS) : s.cur[2]? = some (.bool true) := rfl
theorem cur_3 (s : CS) : s.cur[3]? = some (.int .i64 s.err) := rfl
theorem cur_p1 (s : CS) (a b : Nat) : s.cur.take 1 ++ [.int .i64 ((a : Int) + (b : Int))] ++ s.cur.drop 2 = ({ s with pos := a + b } : CS).cur := rfl
theorem cur_p3 (s : CS) (e : Int) : s.cur.take 3 ++ [.int .i64 e] ++ s.cur.drop 4 = ({ s with err := e } : CS).cur := rfl
attribute [go_sem] cur_len cur_0 cur_1 cur_2 cur_3 cur_p1 cur_p3

def CS.left (s : CS) : Nat := if s.err = 0 then s.b.length - s.pos else 0
def CS.fail (s : CS) (e : Int) : CS := if s.err = 0 then { s with err := e } else s
def CS.take (s : CS) (n : Nat) : List UInt8 × CS :=
  if s.err = 0 then (if n ≤ s.b.length - s.pos then ((s.b.take (s.pos + n)).drop s.pos, { s with pos := s.pos + n }) else ([], { s with err := 10 })) else ([], s)

theorem toNat_add (a b : Nat) : ((a : Int) + (b : Int)).toNat = a + b := by omega
attribute [go_sem] toNat_add

theorem set_same {H : Heap} {p : Nat} {x : Ob Unit} (h : H[p]? = some x) : H.set p x = H := by
  apply List.ext_getElem?; intro i
  rw [List.getElem?_set]
  split
  · rename_i e; subst e
    split
    · exact h.symm
    · rename_i h2; rw [List.getElem?_eq_none (by omega)] at h; simp at h
  · rfl

theorem width_spec {s : Int} {H : Heap} {Q : A → Heap → Prop} (h : Q (.int .i64 (min (max s 0) 8)) H) : AC Try.prog 127 [.int .i64 s] H Q := by
  refine AC.enter (E := env Try.prog 6 (fun _ => .copy) (fun _ => false)) env_ok Try.func127 rfl rfl rfl (by simp only [List.length_cons, List.length_nil]; exact of_decide_eq_true rfl) ?_
  ((try first | refine walk_aw env_ok (none) ?_ | refine walk_aw envR_ok (none) ?_); try simp -implicitDefEqProofs (maxSteps := 1000000) only [go_sem, ↓reduceIte, reduceCtorEq, Nat.reduceLT, Nat.reduceEqDiff, Nat.reduceBEq, Nat.reduceAdd, Nat.reduceMul, Nat.reduceSub, Nat.reduceLeDiff, Int.reduceNeg, Int.reduceLT, Int.reduceLE, Int.reduceEq, Int.reduceAdd, Int.reduceToNat])
  exact .inl h

section
variable {p : Nat} {s : CS} {H : Heap} {Q : A → Heap → Prop}

theorem Err_spec (hp : H[p]? = some (.cells s.cur)) (h : Q (.int .i64 s.err) H) : AC Try.prog 40 [.ptr (some (p, 0))] H Q := by
  refine AC.enter (E := env Try.prog 16 (fun _ => .copy) (fun _ => false)) env_ok Try.func40 rfl rfl rfl (by simp only [List.length_cons, List.length_nil]; exact of_decide_eq_true rfl) ?_
  ((try first | refine walk_aw env_ok (none) ?_ | refine walk_aw envR_ok (none) ?_); try simp -implicitDefEqProofs (maxSteps := 1000000) only [go_sem, ↓reduceIte, reduceCtorEq, Nat.reduceLT, Nat.reduceEqDiff, Nat.reduceBEq, Nat.reduceAdd, Nat.reduceMul, Nat.reduceSub, Nat.reduceLeDiff, Int.reduceNeg, Int.reduceLT, Int.reduceLE, Int.reduceEq, Int.reduceAdd, Int.reduceToNat, hp])
  ((try first | refine walk_aw env_ok (none) ?_ | refine walk_aw envR_ok (none) ?_); try simp -implicitDefEqProofs (maxSteps := 1000000) only [go_sem, ↓reduceIte, reduceCtorEq, Nat.reduceLT, Nat.reduceEqDiff, Nat.reduceBEq, Nat.reduceAdd, Nat.reduceMul, Nat.reduceSub, Nat.reduceLeDiff, Int.reduceNeg, Int.reduceLT, Int.reduceLE, Int.reduceEq, Int.reduceAdd, Int.reduceToNat, hp])
  exact .inl h

theorem Left_spec (hs : s.Ok) (hp : H[p]? = some (.cells s.cur)) (h : Q (.int .i64 s.left) H) : AC Try.prog 37 [.ptr (some (p, 0))] H Q := by
  obtain ⟨o1, o2, o3, o4⟩ := hs
  refine AC.enter (E := env Try.prog 16 (fun _ => .copy) (fun _ => false)) env_ok Try.func37 rfl rfl rfl (by simp only [List.length_cons, List.length_nil]; exact of_decide_eq_true rfl) ?_
  ((try first | refine walk_aw env_ok (none) ?_ | refine walk_aw envR_ok (none) ?_); try simp -implicitDefEqProofs (maxSteps := 1000000) only [go_sem, ↓reduceIte, reduceCtorEq, Nat.reduceLT, Nat.reduceEqDiff, Nat.reduceBEq, Nat.reduceAdd, Nat.reduceMul, Nat.reduceSub, Nat.reduceLeDiff, Int.reduceNeg, Int.reduceLT, Int.reduceLE, Int.reduceEq, Int.reduceAdd, Int.reduceToNat, hp])
  refine Err_spec hp ?_
  simp -implicitDefEqProofs (maxSteps := 1000000) only [go_sem, ↓reduceIte, reduceCtorEq, Nat.reduceLT, Nat.reduceEqDiff, Nat.reduceBEq, Nat.reduceAdd, Nat.reduceMul, Nat.reduceSub, Nat.reduceLeDiff, Int.reduceNeg, Int.reduceLT, Int.reduceLE, Int.reduceEq, Int.reduceAdd, Int.reduceToNat]
  (refine condW.br ?_ ?_ <;> intro e <;> (try simp only [Bool.not_eq_true', Bool.not_eq_false', decide_eq_false_iff_not, decide_eq_true_eq, Bool.false_eq_true, Bool.and_eq_true, Bool.or_eq_true] at e))
  · ((try first | refine walk_aw env_ok (none) ?_ | refine walk_aw envR_ok (none) ?_); try simp -implicitDefEqProofs (maxSteps := 1000000) only [go_sem, ↓reduceIte, reduceCtorEq, Nat.reduceLT, Nat.reduceEqDiff, Nat.reduceBEq, Nat.reduceAdd, Nat.reduceMul, Nat.reduceSub, Nat.reduceLeDiff, Int.reduceNeg, Int.reduceLT, Int.reduceLE, Int.reduceEq, Int.reduceAdd, Int.reduceToNat, hp])
    rw [CS.left, if_neg e] at h
    exact .inl h
  · ((try first | refine walk_aw env_ok (none) ?_ | refine walk_aw envR_ok (none) ?_); try simp -implicitDefEqProofs (maxSteps := 1000000) only [go_sem, ↓reduceIte, reduceCtorEq, Nat.reduceLT, Nat.reduceEqDiff, Nat.reduceBEq, Nat.reduceAdd, Nat.reduceMul, Nat.reduceSub, Nat.reduceLeDiff, Int.reduceNeg, Int.reduceLT, Int.reduceLE, Int.reduceEq, Int.reduceAdd, Int.reduceToNat, hp])
    refine AW.chain env_ok [0, 1, 3, 7, 15, 0, 32, 96, 224, 511, 1023] [0, 1, 2, 3, 4, 5, 6, 7, 8, 9] [(10, [], [])] mixed (by decide) ?_
    simp -implicitDefEqProofs (maxSteps := 1000000) (disch := omega) only [go_sem, ↓reduceIte, reduceCtorEq, Nat.reduceLT, Nat.reduceEqDiff, Nat.reduceBEq, Nat.reduceAdd, Nat.reduceMul, Nat.reduceSub, Nat.reduceLeDiff, Int.reduceNeg, Int.reduceLT, Int.reduceLE, Int.reduceEq, Int.reduceAdd, Int.reduceToNat, IntWalk.i64_in, IntWalk.u64_in, IntWalk.u8_in, if_pos, if_neg, Bool.and_eq_true, decide_eq_true_eq, hp]
    ((try first | refine walk_aw env_ok (none) ?_ | refine walk_aw envR_ok (none) ?_); try simp -implicitDefEqProofs (maxSteps := 1000000) only [go_sem, ↓reduceIte, reduceCtorEq, Nat.reduceLT, Nat.reduceEqDiff, Nat.reduceBEq, Nat.reduceAdd, Nat.reduceMul, Nat.reduceSub, Nat.reduceLeDiff, Int.reduceNeg, Int.reduceLT, Int.reduceLE, Int.reduceEq, Int.reduceAdd, Int.reduceToNat])
    rw [show ((s.left : Nat) : Int) = s.b.length - s.pos by rw [CS.left, if_pos (by omega)]; omega] at h
    exact .inl h

theorem Fail_spec {e : Int} (hp : H[p]? = some (.cells s.cur)) (h : Q (.tup []) (H.set p (.cells (s.fail e).cur))) : AC Try.prog 83 [.ptr (some (p, 0)), .int .i64 e] H Q := by
  refine AC.enter (E := env Try.prog 11 (fun _ => .copy) (fun _ => false)) env_ok Try.func83 rfl rfl rfl (by simp only [List.length_cons, List.length_nil]; exact of_decide_eq_true rfl) ?_
  ((try first | refine walk_aw env_ok (none) ?_ | refine walk_aw envR_ok (none) ?_); try simp -implicitDefEqProofs (maxSteps := 1000000) only [go_sem, ↓reduceIte, reduceCtorEq, Nat.reduceLT, Nat.reduceEqDiff, Nat.reduceBEq, Nat.reduceAdd, Nat.reduceMul, Nat.reduceSub, Nat.reduceLeDiff, Int.reduceNeg, Int.reduceLT, Int.reduceLE, Int.reduceEq, Int.reduceAdd, Int.reduceToNat, hp])
  refine Err_spec hp ?_
  simp -implicitDefEqProofs (maxSteps := 1000000) only [go_sem, ↓reduceIte, reduceCtorEq, Nat.reduceLT, Nat.reduceEqDiff, Nat.reduceBEq, Nat.reduceAdd, Nat.reduceMul, Nat.reduceSub, Nat.reduceLeDiff, Int.reduceNeg, Int.reduceLT, Int.reduceLE, Int.reduceEq, Int.reduceAdd, Int.reduceToNat]
  (refine condW.br ?_ ?_ <;> intro e0 <;> (try simp only [Bool.not_eq_true', Bool.not_eq_false', decide_eq_false_iff_not, decide_eq_true_eq, Bool.false_eq_true, Bool.and_eq_true, Bool.or_eq_true] at e0))
  · ((try first | refine walk_aw env_ok (none) ?_ | refine walk_aw envR_ok (none) ?_); try simp -implicitDefEqProofs (maxSteps := 1000000) only [go_sem, ↓reduceIte, reduceCtorEq, Nat.reduceLT, Nat.reduceEqDiff, Nat.reduceBEq, Nat.reduceAdd, Nat.reduceMul, Nat.reduceSub, Nat.reduceLeDiff, Int.reduceNeg, Int.reduceLT, Int.reduceLE, Int.reduceEq, Int.reduceAdd, Int.reduceToNat, hp])
    rw [CS.fail, if_pos e0] at h
    exact .inl h
  · ((try first | refine walk_aw env_ok (none) ?_ | refine walk_aw envR_ok (none) ?_); try simp -implicitDefEqProofs (maxSteps := 1000000) only [go_sem, ↓reduceIte, reduceCtorEq, Nat.reduceLT, Nat.reduceEqDiff, Nat.reduceBEq, Nat.reduceAdd, Nat.reduceMul, Nat.reduceSub, Nat.reduceLeDiff, Int.reduceNeg, Int.reduceLT, Int.reduceLE, Int.reduceEq, Int.reduceAdd, Int.reduceToNat, hp])
    rw [CS.fail, if_neg e0, set_same hp] at h
    exact .inl h

theorem next_spec {n : Nat} (hn : n < 18446744073709551616) (hs : s.Ok) (hp : H[p]? = some (.cells s.cur)) (h : Q (.sl (bA (s.take n).1) none ()) (H.set p (.cells (s.take n).2.cur))) : AC Try.prog 128 [.ptr (some (p, 0)), .int .u64 n] H Q := by
  obtain ⟨o1, o2, o3, o4⟩ := id hs
  refine AC.enter (E := env Try.prog 49 (fun _ => .copy) (fun t => t == 4)) env_ok Try.func128 rfl rfl rfl (by simp only [List.length_cons, List.length_nil]; exact of_decide_eq_true rfl) ?_
  ((try first | refine walk_aw env_ok (none) ?_ | refine walk_aw envR_ok (none) ?_); try simp -implicitDefEqProofs (maxSteps := 1000000) only [go_sem, ↓reduceIte, reduceCtorEq, Nat.reduceLT, Nat.reduceEqDiff, Nat.reduceBEq, Nat.reduceAdd, Nat.reduceMul, Nat.reduceSub, Nat.reduceLeDiff, Int.reduceNeg, Int.reduceLT, Int.reduceLE, Int.reduceEq, Int.reduceAdd, Int.reduceToNat, hp])
  refine Err_spec hp ?_
  simp -implicitDefEqProofs (maxSteps := 1000000) only [go_sem, ↓reduceIte, reduceCtorEq, Nat.reduceLT, Nat.reduceEqDiff, Nat.reduceBEq, Nat.reduceAdd, Nat.reduceMul, Nat.reduceSub, Nat.reduceLeDiff, Int.reduceNeg, Int.reduceLT, Int.reduceLE, Int.reduceEq, Int.reduceAdd, Int.reduceToNat]
  (refine condW.br ?_ ?_ <;> intro e <;> (try simp only [Bool.not_eq_true', Bool.not_eq_false', decide_eq_false_iff_not, decide_eq_true_eq, Bool.false_eq_true, Bool.and_eq_true, Bool.or_eq_true] at e))
  · ((try first | refine walk_aw env_ok (none) ?_ | refine walk_aw envR_ok (none) ?_); try simp -implicitDefEqProofs (maxSteps := 1000000) only [go_sem, ↓reduceIte, reduceCtorEq, Nat.reduceLT, Nat.reduceEqDiff, Nat.reduceBEq, Nat.reduceAdd, Nat.reduceMul, Nat.reduceSub, Nat.reduceLeDiff, Int.reduceNeg, Int.reduceLT, Int.reduceLE, Int.reduceEq, Int.reduceAdd, Int.reduceToNat, hp])
    rw [CS.take, if_neg e, set_same hp] at h
    exact .inl h
  · ((try first | refine walk_aw env_ok (none) ?_ | refine walk_aw envR_ok (none) ?_); try simp -implicitDefEqProofs (maxSteps := 1000000) only [go_sem, ↓reduceIte, reduceCtorEq, Nat.reduceLT, Nat.reduceEqDiff, Nat.reduceBEq, Nat.reduceAdd, Nat.reduceMul, Nat.reduceSub, Nat.reduceLeDiff, Int.reduceNeg, Int.reduceLT, Int.reduceLE, Int.reduceEq, Int.reduceAdd, Int.reduceToNat, hp])
    refine Left_spec hs hp ?_
    have hl : s.left = s.b.length - s.pos := if_pos (by omega)
    simp -implicitDefEqProofs (maxSteps := 1000000) (disch := omega) only [go_sem, ↓reduceIte, reduceCtorEq, Nat.reduceLT, Nat.reduceEqDiff, Nat.reduceBEq, Nat.reduceAdd, Nat.reduceMul, Nat.reduceSub, Nat.reduceLeDiff, Int.reduceNeg, Int.reduceLT, Int.reduceLE, Int.reduceEq, Int.reduceAdd, Int.reduceToNat, IntWalk.i64_in, IntWalk.u64_in, IntWalk.u8_in, if_pos, if_neg, Bool.and_eq_true, decide_eq_true_eq]
    (refine condW.br ?_ ?_ <;> intro e2 <;> (try simp only [Bool.not_eq_true', Bool.not_eq_false', decide_eq_false_iff_not, decide_eq_true_eq, Bool.false_eq_true, Bool.and_eq_true, Bool.or_eq_true] at e2))
    · ((try first | refine walk_aw env_ok (none) ?_ | refine walk_aw envR_ok (none) ?_); try simp -implicitDefEqProofs (maxSteps := 1000000) only [go_sem, ↓reduceIte, reduceCtorEq, Nat.reduceLT, Nat.reduceEqDiff, Nat.reduceBEq, Nat.reduceAdd, Nat.reduceMul, Nat.reduceSub, Nat.reduceLeDiff, Int.reduceNeg, Int.reduceLT, Int.reduceLE, Int.reduceEq, Int.reduceAdd, Int.reduceToNat, hp])
      refine Fail_spec hp ?_
      simp -implicitDefEqProofs (maxSteps := 1000000) only [go_sem, ↓reduceIte, reduceCtorEq, Nat.reduceLT, Nat.reduceEqDiff, Nat.reduceBEq, Nat.reduceAdd, Nat.reduceMul, Nat.reduceSub, Nat.reduceLeDiff, Int.reduceNeg, Int.reduceLT, Int.reduceLE, Int.reduceEq, Int.reduceAdd, Int.reduceToNat]
      ((try first | refine walk_aw env_ok (none) ?_ | refine walk_aw envR_ok (none) ?_); try simp -implicitDefEqProofs (maxSteps := 1000000) only [go_sem, ↓reduceIte, reduceCtorEq, Nat.reduceLT, Nat.reduceEqDiff, Nat.reduceBEq, Nat.reduceAdd, Nat.reduceMul, Nat.reduceSub, Nat.reduceLeDiff, Int.reduceNeg, Int.reduceLT, Int.reduceLE, Int.reduceEq, Int.reduceAdd, Int.reduceToNat])
      rw [CS.take, if_pos (by omega), if_neg (by omega)] at h
      rw [CS.fail, if_pos (by omega)]
      exact .inl h
    · ((try first | refine walk_aw env_ok (none) ?_ | refine walk_aw envR_ok (none) ?_); try simp -implicitDefEqProofs (maxSteps := 1000000) only [go_sem, ↓reduceIte, reduceCtorEq, Nat.reduceLT, Nat.reduceEqDiff, Nat.reduceBEq, Nat.reduceAdd, Nat.reduceMul, Nat.reduceSub, Nat.reduceLeDiff, Int.reduceNeg, Int.reduceLT, Int.reduceLE, Int.reduceEq, Int.reduceAdd, Int.reduceToNat])
      refine AW.chain env_ok [0, 1, 3, 7, 0, 16, 48, 112, 0, 256, 768, 1792, 0, 4096, 16128, 0, 32768, 98304, 229376, 0, 524288, 2064384, 4194303, 8388607] [0, 1, 2, 3, 4, 5, 6, 7, 8, 9, 10, 11, 12, 13, 14, 15, 16, 17, 18, 19, 20, 21, 22] [(23, [], [])] mixed (by decide) ?_
      simp -implicitDefEqProofs (maxSteps := 1000000) (disch := omega) only [go_sem, ↓reduceIte, reduceCtorEq, Nat.reduceLT, Nat.reduceEqDiff, Nat.reduceBEq, Nat.reduceAdd, Nat.reduceMul, Nat.reduceSub, Nat.reduceLeDiff, Int.reduceNeg, Int.reduceLT, Int.reduceLE, Int.reduceEq, Int.reduceAdd, Int.reduceToNat, IntWalk.i64_in, IntWalk.u64_in, IntWalk.u8_in, if_pos, if_neg, Bool.and_eq_true, decide_eq_true_eq, hp]
      ((try first | refine walk_aw env_ok (none) ?_ | refine walk_aw envR_ok (none) ?_); try simp -implicitDefEqProofs (maxSteps := 1000000) (disch := omega) only [go_sem, ↓reduceIte, reduceCtorEq, Nat.reduceLT, Nat.reduceEqDiff, Nat.reduceBEq, Nat.reduceAdd, Nat.reduceMul, Nat.reduceSub, Nat.reduceLeDiff, Int.reduceNeg, Int.reduceLT, Int.reduceLE, Int.reduceEq, Int.reduceAdd, Int.reduceToNat, IntWalk.i64_in, IntWalk.u64_in, IntWalk.u8_in, if_pos, if_neg, Bool.and_eq_true, decide_eq_true_eq, hp])
      rw [CS.take, if_pos (by omega), if_pos (by omega)] at h
      exact .inl h

end
end Go.Ab
end

section
/- Package cursor: numbers. -/
namespace Go.Ab
open V Go.Proofs
set_option maxHeartbeats 4000000
set_option maxRecDepth 10000
set_option linter.unusedSimpArgs false
set_option linter.unusedVariables false
section
variable {p : Nat} {s : CS} {H : Heap} {Q : A → Heap → Prop}

theorem take_len (s : CS) (n : Nat) : (s.take n).1.length ≤ n := by
  unfold CS.take
  split
  · split
    · simp; omega
    · simp
  · simp

theorem bA_at (l : List UInt8) (i : Nat) (d : A) (h : i < l.length) : (bA l).getD i d = byteA l[i] := by simp [bA, h]

theorem Uint_spec {n : Int} (hs : s.Ok) (hp : H[p]? = some (.cells s.cur))
    (h : Q (.int .u64 (le (s.take (min (max n 0) 8).toNat).1 : Nat)) (H.set p (.cells (s.take (min (max n 0) 8).toNat).2.cur))) : AC Try.prog 84 [.ptr (some (p, 0)), .int .i64 n] H Q := by
  refine AC.enter (E := env Try.prog 29 (fun _ => .copy) (fun _ => false)) env_ok Try.func84 rfl rfl rfl (by simp only [List.length_cons, List.length_nil]; exact of_decide_eq_true rfl) ?_
  ((try first | refine walk_aw env_ok (none) ?_ | refine walk_aw envR_ok (none) ?_); try simp -implicitDefEqProofs (maxSteps := 1000000) only [go_sem, ↓reduceIte, reduceCtorEq, Nat.reduceLT, Nat.reduceEqDiff, Nat.reduceBEq, Nat.reduceAdd, Nat.reduceMul, Nat.reduceSub, Nat.reduceLeDiff, Int.reduceNeg, Int.reduceLT, Int.reduceLE, Int.reduceEq, Int.reduceAdd, Int.reduceToNat])
  refine width_spec ?_
  simp -implicitDefEqProofs (maxSteps := 1000000) (disch := omega) only [go_sem, ↓reduceIte, reduceCtorEq, Nat.reduceLT, Nat.reduceEqDiff, Nat.reduceBEq, Nat.reduceAdd, Nat.reduceMul, Nat.reduceSub, Nat.reduceLeDiff, Int.reduceNeg, Int.reduceLT, Int.reduceLE, Int.reduceEq, Int.reduceAdd, Int.reduceToNat, IntWalk.i64_in, IntWalk.u64_in, IntWalk.u8_in, if_pos, if_neg, Bool.and_eq_true, decide_eq_true_eq]
  obtain ⟨k, hk, hk8⟩ : ∃ k : Nat, min (max n 0) 8 = (k : Int) ∧ k ≤ 8 := ⟨(min (max n 0) 8).toNat, by omega, by omega⟩
  rw [hk] at h ⊢
  rw [Int.toNat_natCast] at h
  refine next_spec (by omega) hs hp ?_
  have hl := take_len s k
  generalize s.take k = r at h hl ⊢
  obtain ⟨l, s1⟩ := r
  simp only at h hl ⊢
  generalize H.set p _ = H1 at h ⊢
  simp -implicitDefEqProofs (maxSteps := 1000000) only [go_sem, ↓reduceIte, reduceCtorEq, Nat.reduceLT, Nat.reduceEqDiff, Nat.reduceBEq, Nat.reduceAdd, Nat.reduceMul, Nat.reduceSub, Nat.reduceLeDiff, Int.reduceNeg, Int.reduceLT, Int.reduceLE, Int.reduceEq, Int.reduceAdd, Int.reduceToNat]
  ((try first | refine walk_aw env_ok (none) ?_ | refine walk_aw envR_ok (none) ?_); try simp -implicitDefEqProofs (maxSteps := 1000000) only [go_sem, ↓reduceIte, reduceCtorEq, Nat.reduceLT, Nat.reduceEqDiff, Nat.reduceBEq, Nat.reduceAdd, Nat.reduceMul, Nat.reduceSub, Nat.reduceLeDiff, Int.reduceNeg, Int.reduceLT, Int.reduceLE, Int.reduceEq, Int.reduceAdd, Int.reduceToNat])
  refine AW.loop (fun st => ∃ i : Nat, i ≤ l.length ∧ st.σ 14 = .int .i64 i ∧ st.σ 13 = .int .i64 l.length ∧ st.σ 12 = .sl (bA l) none () ∧ st.σ 5 = .int .u64 (le (l.take i) : Nat) ∧ st.H = H1)
    (fun st => match st.σ 14 with | .int _ i => l.length - i.toNat | _ => 0) ⟨0, by omega, rfl, rfl, rfl, rfl, rfl⟩ ?_
  rintro ⟨σ, H2⟩ ⟨i, hi, h14, h13, h12, h5, rfl⟩
  simp only at h14 h13 h12 h5
  ((try first | refine walk_aw env_ok (none) ?_ | refine walk_aw envR_ok (none) ?_); try simp -implicitDefEqProofs (maxSteps := 1000000) only [go_sem, ↓reduceIte, reduceCtorEq, Nat.reduceLT, Nat.reduceEqDiff, Nat.reduceBEq, Nat.reduceAdd, Nat.reduceMul, Nat.reduceSub, Nat.reduceLeDiff, Int.reduceNeg, Int.reduceLT, Int.reduceLE, Int.reduceEq, Int.reduceAdd, Int.reduceToNat, h14, h13, h12, h5])
  (refine condW.br ?_ ?_ <;> intro e <;> (try simp only [Bool.not_eq_true', Bool.not_eq_false', decide_eq_false_iff_not, decide_eq_true_eq, Bool.false_eq_true, Bool.and_eq_true, Bool.or_eq_true] at e))
  · have hi' : i < l.length := by omega
    have hx := l[i].toNat_lt
    have hle := le_lt (l.take i)
    rw [List.length_take, Nat.min_eq_left hi] at hle
    have hp8 : 256 ^ i = 2 ^ (8 * i) := by rw [show (256 : Nat) = 2 ^ 8 from rfl, ← Nat.pow_mul]
    have hpw : 2 ^ (8 * i) ≤ 2 ^ 56 := Nat.pow_le_pow_right (by omega) (by omega)
    have hmul : l[i].toNat * 2 ^ (8 * i) ≤ 255 * 2 ^ 56 := Nat.mul_le_mul (by omega) hpw
    have e25 : IntKind.u64.wrap ((l[i].toNat : Int) * 2 ^ min (8 * (i : Int)).toNat 64) = ((l[i].toNat * 2 ^ (8 * i) : Nat) : Int) := by
      rw [show (8 * (i : Int)).toNat = 8 * i by omega, Nat.min_eq_left (by omega), show (l[i].toNat : Int) * 2 ^ (8 * i) = ((l[i].toNat * 2 ^ (8 * i) : Nat) : Int) by simp, IntWalk.u64_in _ (by omega)]
    have e26 : bitsI .or .u64 (le (l.take i) : Nat) (l[i].toNat * 2 ^ (8 * i) : Nat) = (le (l.take (i + 1)) : Nat) := by
      rw [bits_or (by omega) (by omega), or_high (by omega), List.take_succ_eq_append_getElem hi', le_snoc, List.length_take, Nat.min_eq_left hi]
    ((try first | refine walk_aw env_ok (none) ?_ | refine walk_aw envR_ok (none) ?_); try simp -implicitDefEqProofs (maxSteps := 1000000) (disch := omega) only [go_sem, ↓reduceIte, reduceCtorEq, Nat.reduceLT, Nat.reduceEqDiff, Nat.reduceBEq, Nat.reduceAdd, Nat.reduceMul, Nat.reduceSub, Nat.reduceLeDiff, Int.reduceNeg, Int.reduceLT, Int.reduceLE, Int.reduceEq, Int.reduceAdd, Int.reduceToNat, IntWalk.i64_in, IntWalk.u64_in, IntWalk.u8_in, if_pos, if_neg, Bool.and_eq_true, decide_eq_true_eq, h14, h13, h12, h5, bA_at l i _ hi', byteA, e25, e26])
    exact ⟨⟨i + 1, hi', rfl, rfl⟩, by omega⟩
  · ((try first | refine walk_aw env_ok (none) ?_ | refine walk_aw envR_ok (none) ?_); try simp -implicitDefEqProofs (maxSteps := 1000000) only [go_sem, ↓reduceIte, reduceCtorEq, Nat.reduceLT, Nat.reduceEqDiff, Nat.reduceBEq, Nat.reduceAdd, Nat.reduceMul, Nat.reduceSub, Nat.reduceLeDiff, Int.reduceNeg, Int.reduceLT, Int.reduceLE, Int.reduceEq, Int.reduceAdd, Int.reduceToNat, h14, h13, h12, h5])
    rw [List.take_of_length_le (by omega)]
    exact .inl h
theorem U8_spec (hs : s.Ok) (hp : H[p]? = some (.cells s.cur)) (h : Q (.int .u64 (le (s.take 1).1 : Nat)) (H.set p (.cells (s.take 1).2.cur))) : AC Try.prog 80 [.ptr (some (p, 0))] H Q := by
  refine AC.enter (E := env Try.prog 5 (fun _ => .copy) (fun _ => false)) env_ok Try.func80 rfl rfl rfl (by simp only [List.length_cons, List.length_nil]; exact of_decide_eq_true rfl) ?_
  ((try first | refine walk_aw env_ok (none) ?_ | refine walk_aw envR_ok (none) ?_); try simp -implicitDefEqProofs (maxSteps := 1000000) only [go_sem, ↓reduceIte, reduceCtorEq, Nat.reduceLT, Nat.reduceEqDiff, Nat.reduceBEq, Nat.reduceAdd, Nat.reduceMul, Nat.reduceSub, Nat.reduceLeDiff, Int.reduceNeg, Int.reduceLT, Int.reduceLE, Int.reduceEq, Int.reduceAdd, Int.reduceToNat])
  refine Uint_spec hs hp ?_
  simp -implicitDefEqProofs (maxSteps := 1000000) only [go_sem, ↓reduceIte, reduceCtorEq, Nat.reduceLT, Nat.reduceEqDiff, Nat.reduceBEq, Nat.reduceAdd, Nat.reduceMul, Nat.reduceSub, Nat.reduceLeDiff, Int.reduceNeg, Int.reduceLT, Int.reduceLE, Int.reduceEq, Int.reduceAdd, Int.reduceToNat]
  ((try first | refine walk_aw env_ok (none) ?_ | refine walk_aw envR_ok (none) ?_); try simp -implicitDefEqProofs (maxSteps := 1000000) only [go_sem, ↓reduceIte, reduceCtorEq, Nat.reduceLT, Nat.reduceEqDiff, Nat.reduceBEq, Nat.reduceAdd, Nat.reduceMul, Nat.reduceSub, Nat.reduceLeDiff, Int.reduceNeg, Int.reduceLT, Int.reduceLE, Int.reduceEq, Int.reduceAdd, Int.reduceToNat])
  exact .inl h
theorem U16_spec (hs : s.Ok) (hp : H[p]? = some (.cells s.cur)) (h : Q (.int .u64 (le (s.take 2).1 : Nat)) (H.set p (.cells (s.take 2).2.cur))) : AC Try.prog 81 [.ptr (some (p, 0))] H Q := by
  refine AC.enter (E := env Try.prog 5 (fun _ => .copy) (fun _ => false)) env_ok Try.func81 rfl rfl rfl (by simp only [List.length_cons, List.length_nil]; exact of_decide_eq_true rfl) ?_
  ((try first | refine walk_aw env_ok (none) ?_ | refine walk_aw envR_ok (none) ?_); try simp -implicitDefEqProofs (maxSteps := 1000000) only [go_sem, ↓reduceIte, reduceCtorEq, Nat.reduceLT, Nat.reduceEqDiff, Nat.reduceBEq, Nat.reduceAdd, Nat.reduceMul, Nat.reduceSub, Nat.reduceLeDiff, Int.reduceNeg, Int.reduceLT, Int.reduceLE, Int.reduceEq, Int.reduceAdd, Int.reduceToNat])
  refine Uint_spec hs hp ?_
  simp -implicitDefEqProofs (maxSteps := 1000000) only [go_sem, ↓reduceIte, reduceCtorEq, Nat.reduceLT, Nat.reduceEqDiff, Nat.reduceBEq, Nat.reduceAdd, Nat.reduceMul, Nat.reduceSub, Nat.reduceLeDiff, Int.reduceNeg, Int.reduceLT, Int.reduceLE, Int.reduceEq, Int.reduceAdd, Int.reduceToNat]
  ((try first | refine walk_aw env_ok (none) ?_ | refine walk_aw envR_ok (none) ?_); try simp -implicitDefEqProofs (maxSteps := 1000000) only [go_sem, ↓reduceIte, reduceCtorEq, Nat.reduceLT, Nat.reduceEqDiff, Nat.reduceBEq, Nat.reduceAdd, Nat.reduceMul, Nat.reduceSub, Nat.reduceLeDiff, Int.reduceNeg, Int.reduceLT, Int.reduceLE, Int.reduceEq, Int.reduceAdd, Int.reduceToNat])
  exact .inl h
theorem U64_spec (hs : s.Ok) (hp : H[p]? = some (.cells s.cur)) (h : Q (.int .u64 (le (s.take 8).1 : Nat)) (H.set p (.cells (s.take 8).2.cur))) : AC Try.prog 82 [.ptr (some (p, 0))] H Q := by
  refine AC.enter (E := env Try.prog 5 (fun _ => .copy) (fun _ => false)) env_ok Try.func82 rfl rfl rfl (by simp only [List.length_cons, List.length_nil]; exact of_decide_eq_true rfl) ?_
  ((try first | refine walk_aw env_ok (none) ?_ | refine walk_aw envR_ok (none) ?_); try simp -implicitDefEqProofs (maxSteps := 1000000) only [go_sem, ↓reduceIte, reduceCtorEq, Nat.reduceLT, Nat.reduceEqDiff, Nat.reduceBEq, Nat.reduceAdd, Nat.reduceMul, Nat.reduceSub, Nat.reduceLeDiff, Int.reduceNeg, Int.reduceLT, Int.reduceLE, Int.reduceEq, Int.reduceAdd, Int.reduceToNat])
  refine Uint_spec hs hp ?_
  simp -implicitDefEqProofs (maxSteps := 1000000) only [go_sem, ↓reduceIte, reduceCtorEq, Nat.reduceLT, Nat.reduceEqDiff, Nat.reduceBEq, Nat.reduceAdd, Nat.reduceMul, Nat.reduceSub, Nat.reduceLeDiff, Int.reduceNeg, Int.reduceLT, Int.reduceLE, Int.reduceEq, Int.reduceAdd, Int.reduceToNat]
  ((try first | refine walk_aw env_ok (none) ?_ | refine walk_aw envR_ok (none) ?_); try simp -implicitDefEqProofs (maxSteps := 1000000) only [go_sem, ↓reduceIte, reduceCtorEq, Nat.reduceLT, Nat.reduceEqDiff, Nat.reduceBEq, Nat.reduceAdd, Nat.reduceMul, Nat.reduceSub, Nat.reduceLeDiff, Int.reduceNeg, Int.reduceLT, Int.reduceLE, Int.reduceEq, Int.reduceAdd, Int.reduceToNat])
  exact .inl h

theorem New_spec {b : List UInt8} (hb : b.length < 140737488355328) (h : Q (.ptr (some (H.length, 0))) (H ++ [.cells (CS.mk b 0 0).cur])) : AC Try.prog 36 [.sl (bA b) none ()] H Q := by
  refine AC.enter (E := env Try.prog 8 (fun _ => .copy) (fun t => t == 5)) env_ok Try.func36 rfl rfl rfl (by simp only [List.length_cons, List.length_nil]; exact of_decide_eq_true rfl) ?_
  ((try first | refine walk_aw env_ok (none) ?_ | refine walk_aw envR_ok (none) ?_); try simp -implicitDefEqProofs (maxSteps := 1000000) (disch := omega) only [go_sem, ↓reduceIte, reduceCtorEq, Nat.reduceLT, Nat.reduceEqDiff, Nat.reduceBEq, Nat.reduceAdd, Nat.reduceMul, Nat.reduceSub, Nat.reduceLeDiff, Int.reduceNeg, Int.reduceLT, Int.reduceLE, Int.reduceEq, Int.reduceAdd, Int.reduceToNat, IntWalk.i64_in, IntWalk.u64_in, IntWalk.u8_in, if_pos, if_neg, Bool.and_eq_true, decide_eq_true_eq])
  exact .inl h
end
end Go.Ab
end

section
/- Objects at the heap's end. -/
namespace Go.Ab
open V Go.Proofs
set_option linter.unusedVariables false

/-! two objects, and three -/
section
variable (H : Heap) (a b c x : Ob Unit)
theorem two_0 : (H ++ [a, b])[H.length]? = some a := by simp
theorem two_1 : (H ++ [a, b])[H.length + 1]? = some b := by simp
theorem two_s0 : (H ++ [a, b]).set H.length x = H ++ [x, b] := by rw [List.set_append_right _ _ (Nat.le_refl _), Nat.sub_self]; rfl
theorem two_s1 : (H ++ [a, b]).set (H.length + 1) x = H ++ [a, x] := by rw [List.set_append_right _ _ (by omega), Nat.add_sub_cancel_left]; rfl
theorem two_l : (H ++ [a, b]).length = H.length + 2 := by simp
theorem two_t : (H ++ [a, b]).take H.length = H := by simp
theorem two_t2 : (H ++ [a, b]).take (H.length + 2) = H ++ [a, b] := List.take_of_length_le (by simp)
theorem three : H ++ [a, b] ++ [c] = H ++ [a, b, c] := by simp
theorem three_0 : (H ++ [a, b, c])[H.length]? = some a := by simp
theorem three_1 : (H ++ [a, b, c])[H.length + 1]? = some b := by simp
theorem three_2 : (H ++ [a, b, c])[H.length + 2]? = some c := by simp
theorem three_s0 : (H ++ [a, b, c]).set H.length x = H ++ [x, b, c] := by rw [List.set_append_right _ _ (Nat.le_refl _), Nat.sub_self]; rfl
theorem three_s1 : (H ++ [a, b, c]).set (H.length + 1) x = H ++ [a, x, c] := by rw [List.set_append_right _ _ (by omega), Nat.add_sub_cancel_left]; rfl
theorem three_s2 : (H ++ [a, b, c]).set (H.length + 2) x = H ++ [a, b, x] := by rw [List.set_append_right _ _ (by omega), Nat.add_sub_cancel_left]; rfl
theorem three_t : (H ++ [a, b, c]).take (H.length + 2) = H ++ [a, b] := by rw [List.take_append, Nat.add_sub_cancel_left, List.take_of_length_le (by omega)]; rfl
theorem low_two : decide (H.length < H.length + 1) = true := by simp
end
attribute [go_sem] two_0 two_1 two_s0 two_s1 two_l two_t two_t2 three three_0 three_1 three_2 three_s0 three_s1 three_s2 three_t
end Go.Ab
end

section
/- Package leb: numbers are put. -/
namespace Go.Ab
open V Go.Proofs
set_option maxHeartbeats 4000000
set_option maxRecDepth 10000
set_option linter.unusedSimpArgs false
set_option linter.unusedVariables false

/-- A number's 7-bit parts. -/
def parts7 (n : Nat) : List Nat := if h : n < 128 then [n] else n % 128 :: parts7 (n / 128)
termination_by n
decreasing_by omega

theorem shr7 (n : Nat) : (n : Int).fdiv (2 ^ min 7 64) = ((n / 128 : Nat) : Int) := by
  rw [show min 7 64 = 7 by decide, Int.fdiv_eq_ediv_of_nonneg _ (by decide)]; omega

theorem unsigned_spec {n : Nat} {H : Heap} {Q : A → Heap → Prop} (h : Q (.fn (.func 144) [] [.ptr (some (H.length, 0))]) (H ++ [.cells [.int .u64 n]])) :
    AC Try.prog 140 [.int .u64 n] H Q := by
  refine AC.enter (E := env Try.prog 4 (fun _ => .copy) (fun _ => false)) env_ok Try.func140 rfl rfl rfl (by simp only [List.length_cons, List.length_nil]; exact of_decide_eq_true rfl) ?_
  ((try first | refine walk_aw env_ok (none) ?_ | refine walk_aw envR_ok (none) ?_); try simp -implicitDefEqProofs (maxSteps := 1000000) only [go_sem, ↓reduceIte, reduceCtorEq, Nat.reduceLT, Nat.reduceEqDiff, Nat.reduceBEq, Nat.reduceAdd, Nat.reduceMul, Nat.reduceSub, Nat.reduceLeDiff, Int.reduceNeg, Int.reduceLT, Int.reduceLE, Int.reduceEq, Int.reduceAdd, Int.reduceToNat])
  exact .inl h

/-- The generator of a number's parts: whatever is done with them, K tells the heap by them and by the number that is left. -/
theorem unsigned1_spec {l i : Nat} {K : List Nat → Nat → Heap} (hget : ∀ bs m, (K bs m)[i]? = some (.cells [.int .u64 m])) (hset : ∀ bs m m' : _, (K bs m).set i (.cells [.int .u64 ((m' : Nat) : Int)]) = K bs m')
    {n : Nat} (hy : ∀ bs m (x : Nat) rest, bs ++ x :: rest = parts7 n → x < 128 → AY Try.prog l [.int .u8 x] (K bs m) (fun r H => r = .bool true ∧ H = K (bs ++ [x]) m))
    (hn : n < 18446744073709551616) {Q : A → Heap → Prop} (h : Q (.tup []) (K (parts7 n) 0)) : AC Try.prog 144 [.fn (.yield l) [] [], .ptr (some (i, 0))] (K [] n) Q := by
  refine AC.enter (E := env Try.prog 13 (fun _ => .copy) (fun _ => false)) env_ok Try.func144 rfl rfl rfl (by simp only [List.length_cons, List.length_nil]; exact of_decide_eq_true rfl) ?_
  ((try first | refine walk_aw env_ok (none) ?_ | refine walk_aw envR_ok (none) ?_); try simp -implicitDefEqProofs (maxSteps := 1000000) only [go_sem, ↓reduceIte, reduceCtorEq, Nat.reduceLT, Nat.reduceEqDiff, Nat.reduceBEq, Nat.reduceAdd, Nat.reduceMul, Nat.reduceSub, Nat.reduceLeDiff, Int.reduceNeg, Int.reduceLT, Int.reduceLE, Int.reduceEq, Int.reduceAdd, Int.reduceToNat])
  refine AW.loop (fun st => ∃ bs m, st.σ 0 = .fn (.yield l) [] [] ∧ st.σ 1 = .ptr (some (i, 0)) ∧ st.H = K bs m ∧ m < 18446744073709551616 ∧ bs ++ parts7 m = parts7 n) (fun st => match st.H[i]? with | some (.cells [.int _ m]) => m.toNat | _ => 0) ⟨[], n, rfl, rfl, rfl, hn, rfl⟩ ?_
  rintro ⟨σ, H2⟩ ⟨bs, m, s0, s1, rfl, hm, hp⟩
  simp only at s0 s1
  have h128 : m % 128 < 128 := Nat.mod_lt _ (by omega)
  ((try first | refine walk_aw env_ok (none) ?_ | refine walk_aw envR_ok (none) ?_); try simp -implicitDefEqProofs (maxSteps := 1000000) only [go_sem, ↓reduceIte, reduceCtorEq, Nat.reduceLT, Nat.reduceEqDiff, Nat.reduceBEq, Nat.reduceAdd, Nat.reduceMul, Nat.reduceSub, Nat.reduceLeDiff, Int.reduceNeg, Int.reduceLT, Int.reduceLE, Int.reduceEq, Int.reduceAdd, Int.reduceToNat, s0, s1, hget, and127 hm, IntWalk.u8_in _ (show 0 ≤ ((m % 128 : Nat) : Int) ∧ ((m % 128 : Nat) : Int) ≤ 255 by omega)])
  have hrest : ∃ rest, bs ++ m % 128 :: rest = parts7 n := by
    rw [← hp]
    by_cases c : m < 128
    · exact ⟨[], by rw [parts7, dif_pos c, Nat.mod_eq_of_lt c]⟩
    · exact ⟨parts7 (m / 128), by rw [parts7.eq_def m, dif_neg c]⟩
  obtain ⟨rest, hrest⟩ := hrest
  refine (hy bs m (m % 128) rest hrest h128).mono ?_
  rintro r H ⟨rfl, rfl⟩
  ((try first | refine walk_aw env_ok (none) ?_ | refine walk_aw envR_ok (none) ?_); try simp -implicitDefEqProofs (maxSteps := 1000000) only [go_sem, ↓reduceIte, reduceCtorEq, Nat.reduceLT, Nat.reduceEqDiff, Nat.reduceBEq, Nat.reduceAdd, Nat.reduceMul, Nat.reduceSub, Nat.reduceLeDiff, Int.reduceNeg, Int.reduceLT, Int.reduceLE, Int.reduceEq, Int.reduceAdd, Int.reduceToNat, s0, s1, hget, hset, shr7])
  by_cases c : m < 128
  · have c1 : ((m / 128 : Nat) : Int) = 0 := by omega
    have c2 : m / 128 = 0 := by omega
    ((try first | refine walk_aw env_ok (none) ?_ | refine walk_aw envR_ok (none) ?_); try simp -implicitDefEqProofs (maxSteps := 1000000) only [go_sem, ↓reduceIte, reduceCtorEq, Nat.reduceLT, Nat.reduceEqDiff, Nat.reduceBEq, Nat.reduceAdd, Nat.reduceMul, Nat.reduceSub, Nat.reduceLeDiff, Int.reduceNeg, Int.reduceLT, Int.reduceLE, Int.reduceEq, Int.reduceAdd, Int.reduceToNat, c1])
    refine .inl ?_
    have e : parts7 m = [m] := by unfold parts7; rw [dif_pos c]
    rw [e] at hp
    rw [c2, Nat.mod_eq_of_lt c, hp]
    exact h
  · have c1 : ¬ ((m / 128 : Nat) : Int) = 0 := by omega
    ((try first | refine walk_aw env_ok (none) ?_ | refine walk_aw envR_ok (none) ?_); try simp -implicitDefEqProofs (maxSteps := 1000000) only [go_sem, ↓reduceIte, reduceCtorEq, Nat.reduceLT, Nat.reduceEqDiff, Nat.reduceBEq, Nat.reduceAdd, Nat.reduceMul, Nat.reduceSub, Nat.reduceLeDiff, Int.reduceNeg, Int.reduceLT, Int.reduceLE, Int.reduceEq, Int.reduceAdd, Int.reduceToNat, c1])
    have e : parts7 m = m % 128 :: parts7 (m / 128) := by rw [parts7, dif_neg c]
    refine ⟨⟨bs ++ [m % 128], m / 128, s0, s1, rfl, by omega, by rw [← hp, e]; simp⟩, ?_⟩
    simp only [hget]
    omega
theorem parts_len {k : Nat} : ∀ {n : Nat}, n < 128 ^ (k + 1) → (parts7 n).length ≤ k + 1 := by
  induction k with
  | zero => intro n h; unfold parts7; rw [dif_pos (by simpa using h)]; simp
  | succ k ih =>
    intro n h
    unfold parts7
    split
    · simp
    · simp only [List.length_cons]
      have : n / 128 < 128 ^ (k + 1) := by rw [Nat.div_lt_iff_lt_mul (by omega)]; rw [Nat.pow_succ] at h; exact h
      have := ih this
      omega
theorem or128 : ∀ x : Nat, x < 128 → bitsI .or .u8 (x : Int) 128 = ((x + 128 : Nat) : Int) := by decide
theorem and127b : ∀ x : Nat, x < 256 → bitsI .and .u8 (x : Int) 127 = ((x % 128 : Nat) : Int) := by decide

theorem parts7_ne (n : Nat) : parts7 n ≠ [] := by unfold parts7; split <;> simp
theorem parts7_lt (n : Nat) : ∀ x ∈ parts7 n, x < 128 := by
  induction n using Nat.strongRecOn with
  | _ n ih =>
    intro x hx
    unfold parts7 at hx
    split at hx
    · simp at hx; omega
    · rcases List.mem_cons.1 hx with rfl | hx
      · omega
      · exact ih (n / 128) (by omega) x hx
/-- Parts, each with its highest bit. -/
def enc (bs : List Nat) : List UInt8 := bs.map fun x => UInt8.ofNat (x + 128)

theorem one_two (H : Heap) (a b : Ob Unit) : H ++ [a] ++ [b] = H ++ [a, b] := by simp
theorem one_l (H : Heap) (a : Ob Unit) : (H ++ [a]).length = H.length + 1 := by simp
theorem uni_i1 (k : IntKind) (n : Int) : Uni 1 ([.int k n] : List A) = true := rfl
attribute [go_sem] one_two one_l uni_i1
theorem put_spec {b : List UInt8} {k n : Nat} {H : Heap} {Q : A → Heap → Prop} (hb : b.length < 140737488355000) (hk : k ≤ b.length) (hn : n < 18446744073709551616)
    (h : Q (.sl (bA (b ++ enc (parts7 n).dropLast ++ [UInt8.ofNat ((parts7 n).getLastD 0)])) (some k) ()) (H ++ [.cells [.int .u64 0]])) :
    AC Try.prog 139 [.sl (bA b) (some k) (), .fn (.func 144) [] [.ptr (some (H.length, 0))]] (H ++ [.cells [.int .u64 n]]) Q := by
  refine AC.enter (E := env Try.prog 29 (fun t => if t == 11 || t == 28 then .take else .copy) (fun _ => false)) env_ok Try.func139 rfl rfl rfl (by simp only [List.length_cons, List.length_nil]; exact of_decide_eq_true rfl) ?_
  ((try first | refine walk_aw env_ok (some (fun t => t == 7 || t == 16 || t == 20 || t == 21)) ?_ | refine walk_aw envR_ok (some (fun t => t == 7 || t == 16 || t == 20 || t == 21)) ?_); try simp -implicitDefEqProofs (maxSteps := 1000000) only [go_sem, ↓reduceIte, reduceCtorEq, Nat.reduceLT, Nat.reduceEqDiff, Nat.reduceBEq, Nat.reduceAdd, Nat.reduceMul, Nat.reduceSub, Nat.reduceLeDiff, Int.reduceNeg, Int.reduceLT, Int.reduceLE, Int.reduceEq, Int.reduceAdd, Int.reduceToNat])
  refine AW.gen (fun st => st.σ 2 = .ptr (some (H.length + 1, 0)) ∧ st.σ 5 = .int .i64 b.length ∧ st.σ 9 = .fn (.func 144) [] [.ptr (some (H.length, 0))] ∧ st.H = H ++ [Ob.cells [.int .u64 n], Ob.cells [.sl (bA b) (some k) ()]]) ⟨rfl, rfl, rfl, rfl⟩ ?_
  rintro ⟨σ, H2⟩ ⟨s2, s5, s9, rfl⟩
  simp only at s2 s5 s9
  refine AW.rangeFunc (first := []) (cap := [.ptr (some (H.length, 0))]) env_ok rfl Try.func144 rfl rfl s9 rfl ?_
  intro l r r1 r2 r3 r4 r5
  rw [three]
  have hp10 : (parts7 n).length ≤ 10 := parts_len (k := 9) (by omega)
  have hK : ∀ m, H ++ [Ob.cells [.int .u64 (m : Nat)], Ob.cells [.sl (bA b) (some k) ()], Ob.loop l r (tmpsOf 29 σ)] =
      (fun bs m => H ++ [Ob.cells [.int .u64 (m : Nat)], Ob.cells [.sl (bA (b ++ enc bs)) (some k) ()], Ob.loop l r (tmpsOf 29 σ)]) [] m := by intro m; simp [enc]
  refine (congrArg (fun G => AC Try.prog 144 [.fn (.yield l) [] [], .ptr (some (H.length, 0))] G _) (hK n)).mpr ?_
  refine unsigned1_spec (n := n) (K := fun bs m => H ++ [Ob.cells [.int .u64 (m : Nat)], Ob.cells [.sl (bA (b ++ enc bs)) (some k) ()], Ob.loop l r (tmpsOf 29 σ)]) (fun bs m => three_0 ..) (fun bs m m' => three_s0 ..) ?_ hn ?_
  · intro bs m x rest hrest hx
    have hlen : bs.length < 10 := by have := congrArg List.length hrest; simp at this; omega
    refine AY.one (E := envR Try.prog 29 (fun t => if t == 11 || t == 28 then .take else .copy) (fun _ => false)) rfl (i := H.length + 2) (three_2 ..) r1 r3 (by decide) r4 r5 ?_
    have hel : (enc bs).length = bs.length := by simp [enc]
    have hkl : k ≤ (b ++ enc bs).length := by simp; omega
    have hcap : (b ++ enc bs).length ≤ 140737488355327 := by simp [hel]; omega
    have hap : bA (b ++ enc bs) ++ ([V.int IntKind.u8 ((x + 128 : Nat) : Int)] : List A) = bA (b ++ enc (bs ++ [x])) := by
      simp only [bA, enc, List.map_append, List.map_cons, List.map_nil, ← List.append_assoc, byteA]
      rw [show (UInt8.ofNat (x + 128)).toNat = x + 128 by simp; omega]
    ((try first | refine walk_aw env_ok (none) ?_ | refine walk_aw envR_ok (none) ?_); try simp -implicitDefEqProofs (maxSteps := 1000000) only [go_sem, ↓reduceIte, reduceCtorEq, Nat.reduceLT, Nat.reduceEqDiff, Nat.reduceBEq, Nat.reduceAdd, Nat.reduceMul, Nat.reduceSub, Nat.reduceLeDiff, Int.reduceNeg, Int.reduceLT, Int.reduceLE, Int.reduceEq, Int.reduceAdd, Int.reduceToNat, s2, hkl, hcap, or128 x hx, hap, over_normal r1 r2])
    ((try first | refine walk_aw env_ok (none) ?_ | refine walk_aw envR_ok (none) ?_); try simp -implicitDefEqProofs (maxSteps := 1000000) only [go_sem, ↓reduceIte, reduceCtorEq, Nat.reduceLT, Nat.reduceEqDiff, Nat.reduceBEq, Nat.reduceAdd, Nat.reduceMul, Nat.reduceSub, Nat.reduceLeDiff, Int.reduceNeg, Int.reduceLT, Int.reduceLE, Int.reduceEq, Int.reduceAdd, Int.reduceToNat, s2, hkl, hcap, or128 x hx, hap, over_normal r1 r2])
  · refine ⟨H ++ [Ob.cells [.int .u64 0], Ob.cells [.sl (bA (b ++ enc (parts7 n))) (some k) ()]], r, _, .normal, (three ..).symm, by simp, by rw [r1]; simp, r2, ?_⟩
    obtain ⟨P, z, hP⟩ : ∃ P z, parts7 n = P ++ [z] := ⟨(parts7 n).dropLast, (parts7 n).getLast (parts7_ne n), (List.dropLast_concat_getLast (parts7_ne n)).symm⟩
    have hz : z < 128 := parts7_lt n z (by rw [hP]; simp)
    rw [hP] at h hp10 ⊢
    have hl10 : P.length < 10 := by simp at hp10; omega
    have hsp : b ++ enc (P ++ [z]) = (b ++ enc P) ++ [UInt8.ofNat (z + 128)] := by simp [enc]
    have hB : (b ++ enc P).length = b.length + P.length := by simp [enc]
    rw [hsp]
    have hQ : Q (.sl (bA (b ++ enc P ++ [UInt8.ofNat z])) (some k) ()) (H ++ [.cells [.int .u64 0]]) := by simpa using h
    generalize b ++ enc P = B at hQ hB ⊢
    obtain ⟨N, hN⟩ : ∃ N, N = B.length := ⟨_, rfl⟩
    have e1 : (B ++ [UInt8.ofNat (z + 128)]).length = N + 1 := by rw [hN]; simp
    have e2 : ((N + 1 : Nat) : Int) > (b.length : Int) := by omega
    have e3 : IntKind.i64.wrap (((N + 1 : Nat) : Int) - 1) = (N : Int) := by rw [IntWalk.i64_in _ (by omega)]; omega
    have e4 : (0 : Int) ≤ (N : Int) := by omega
    have e5 : (N : Int) < ((N + 1 : Nat) : Int) := by omega
    have e6 : (bA (B ++ [UInt8.ofNat (z + 128)]))[N]? = some (.int .u8 ((z + 128 : Nat) : Int)) := by
      rw [hN, bA, List.map_append, List.getElem?_append_right (by simp)]
      simp only [List.length_map, Nat.sub_self, List.map_cons, List.getElem?_cons_zero, byteA]
      rw [show (UInt8.ofNat (z + 128)).toNat = z + 128 by simp; omega]
    have e7 : bitsI .and .u8 ((z + 128 : Nat) : Int) 127 = (z : Int) := by rw [and127b _ (by omega)]; omega
    have e8 : (bA (B ++ [UInt8.ofNat (z + 128)])).set N (.int .u8 (z : Int)) = bA (B ++ [UInt8.ofNat z]) := by
      rw [hN, bA, List.map_append, List.set_append_right _ _ (by simp)]
      simp only [List.length_map, Nat.sub_self, List.map_cons, List.map_nil, List.set_cons_zero, bA, List.map_append, byteA]
      rw [show (UInt8.ofNat z).toNat = z by simp; omega]
    have e9 : k ≤ N := by omega
    ((try first | refine walk_aw env_ok (some (fun t => t == 7 || t == 16 || t == 20 || t == 21)) ?_ | refine walk_aw envR_ok (some (fun t => t == 7 || t == 16 || t == 20 || t == 21)) ?_); try simp -implicitDefEqProofs (maxSteps := 1000000) only [go_sem, ↓reduceIte, reduceCtorEq, Nat.reduceLT, Nat.reduceEqDiff, Nat.reduceBEq, Nat.reduceAdd, Nat.reduceMul, Nat.reduceSub, Nat.reduceLeDiff, Int.reduceNeg, Int.reduceLT, Int.reduceLE, Int.reduceEq, Int.reduceAdd, Int.reduceToNat, s2, s5, e1, e2, e3, e4, e5, e6, e7, e8, e9])
    refine .inr ?_
    rw [show (H ++ [Ob.cells [V.int IntKind.u64 0], Ob.cells [V.undef ()]]).take (H.length + 1) = H ++ [Ob.cells [V.int IntKind.u64 0]] by rw [List.take_append, Nat.add_sub_cancel_left, List.take_of_length_le (by omega)]; rfl]
    exact hQ

/-- A number's bytes. -/
def putU (n : Nat) : List UInt8 := enc (parts7 n).dropLast ++ [UInt8.ofNat ((parts7 n).getLastD 0)]

theorem putU_def (n : Nat) : putU n = if n < 128 then [UInt8.ofNat n] else UInt8.ofNat (n % 128 + 128) :: putU (n / 128) := by
  unfold putU
  rw [parts7.eq_def n]
  split
  · rfl
  · have h := parts7_ne (n / 128)
    rw [List.dropLast_cons_of_ne_nil h]
    cases hc : parts7 (n / 128) with
    | nil => exact absurd hc h
    | cons x l => simp [enc]

theorem PutU_spec {b : List UInt8} {k n : Nat} {H : Heap} {Q : A → Heap → Prop} (hb : b.length < 140737488355000) (hk : k ≤ b.length) (hn : n < 18446744073709551616)
    (h : Q (.sl (bA (b ++ putU n)) (some k) ()) H) : AC Try.prog 125 [.sl (bA b) (some k) (), .int .u64 n] H Q := by
  refine AC.enter (E := env Try.prog 9 (fun t => if t == 5 then .take else .copy) (fun _ => false)) env_ok Try.func125 rfl rfl rfl (by simp only [List.length_cons, List.length_nil]; exact of_decide_eq_true rfl) ?_
  ((try first | refine walk_aw env_ok (none) ?_ | refine walk_aw envR_ok (none) ?_); try simp -implicitDefEqProofs (maxSteps := 1000000) only [go_sem, ↓reduceIte, reduceCtorEq, Nat.reduceLT, Nat.reduceEqDiff, Nat.reduceBEq, Nat.reduceAdd, Nat.reduceMul, Nat.reduceSub, Nat.reduceLeDiff, Int.reduceNeg, Int.reduceLT, Int.reduceLE, Int.reduceEq, Int.reduceAdd, Int.reduceToNat])
  refine unsigned_spec ?_
  ((try first | refine walk_aw env_ok (none) ?_ | refine walk_aw envR_ok (none) ?_); try simp -implicitDefEqProofs (maxSteps := 1000000) only [go_sem, ↓reduceIte, reduceCtorEq, Nat.reduceLT, Nat.reduceEqDiff, Nat.reduceBEq, Nat.reduceAdd, Nat.reduceMul, Nat.reduceSub, Nat.reduceLeDiff, Int.reduceNeg, Int.reduceLT, Int.reduceLE, Int.reduceEq, Int.reduceAdd, Int.reduceToNat])
  refine put_spec hb hk hn ?_
  ((try first | refine walk_aw env_ok (none) ?_ | refine walk_aw envR_ok (none) ?_); try simp -implicitDefEqProofs (maxSteps := 1000000) only [go_sem, ↓reduceIte, reduceCtorEq, Nat.reduceLT, Nat.reduceEqDiff, Nat.reduceBEq, Nat.reduceAdd, Nat.reduceMul, Nat.reduceSub, Nat.reduceLeDiff, Int.reduceNeg, Int.reduceLT, Int.reduceLE, Int.reduceEq, Int.reduceAdd, Int.reduceToNat])
  refine .inr ?_
  simpa [putU] using h
end Go.Ab
end

section
/- Package sindriref01: contracts. -/
namespace Go.Ab
open V Go.Proofs
set_option maxHeartbeats 4000000
set_option maxRecDepth 10000
set_option linter.unusedSimpArgs false
set_option linter.unusedVariables false

/-- The cells of a cursor of the document. -/
def CS.ref (s : CS) : List A := [.sl (bA s.b) none (), .int .i64 s.pos, .int .i64 s.err]
theorem ref_len (s : CS) : s.ref.length = 3 := rfl
theorem ref_0 (s : CS) : s.ref[0]? = some (.sl (bA s.b) none ()) := rfl
theorem ref_1 (s : CS) : s.ref[1]? = some (.int .i64 s.pos) := rfl
theorem ref_2 (s : CS) : s.ref[2]? = some (.int .i64 s.err) := rfl
theorem ref_p1 (s : CS) (a b : Nat) : s.ref.take 1 ++ [.int .i64 ((a : Int) + (b : Int))] ++ s.ref.drop 2 = ({ s with pos := a + b } : CS).ref := rfl
theorem ref_p2 (s : CS) (e : Int) : s.ref.take 2 ++ [.int .i64 e] ++ s.ref.drop 3 = ({ s with err := e } : CS).ref := rfl
attribute [go_sem] ref_len ref_0 ref_1 ref_2 ref_p1 ref_p2
section
variable {p : Nat} {s : CS} {H : Heap} {Q : A → Heap → Prop}

theorem rsize_spec {n : Int} (h : Q (.int .i64 (min (max n 0) 8)) H) : AC Try.prog 133 [.int .i64 n] H Q := by
  refine AC.enter (E := env Try.prog 8 (fun _ => .copy) (fun _ => false)) env_ok Try.func133 rfl rfl rfl (by simp only [List.length_cons, List.length_nil]; exact of_decide_eq_true rfl) ?_
  ((try first | refine walk_aw env_ok (none) ?_ | refine walk_aw envR_ok (none) ?_); try simp -implicitDefEqProofs (maxSteps := 1000000) only [go_sem, ↓reduceIte, reduceCtorEq, Nat.reduceLT, Nat.reduceEqDiff, Nat.reduceBEq, Nat.reduceAdd, Nat.reduceMul, Nat.reduceSub, Nat.reduceLeDiff, Int.reduceNeg, Int.reduceLT, Int.reduceLE, Int.reduceEq, Int.reduceAdd, Int.reduceToNat])
  (refine condW.br ?_ ?_ <;> intro e <;> (try simp only [Bool.not_eq_true', Bool.not_eq_false', decide_eq_false_iff_not, decide_eq_true_eq, Bool.false_eq_true, Bool.and_eq_true, Bool.or_eq_true] at e))
  · ((try first | refine walk_aw env_ok (none) ?_ | refine walk_aw envR_ok (none) ?_); try simp -implicitDefEqProofs (maxSteps := 1000000) only [go_sem, ↓reduceIte, reduceCtorEq, Nat.reduceLT, Nat.reduceEqDiff, Nat.reduceBEq, Nat.reduceAdd, Nat.reduceMul, Nat.reduceSub, Nat.reduceLeDiff, Int.reduceNeg, Int.reduceLT, Int.reduceLE, Int.reduceEq, Int.reduceAdd, Int.reduceToNat])
    rw [show min (max n 0) 8 = 0 by omega] at h
    exact .inl h
  · ((try first | refine walk_aw env_ok (none) ?_ | refine walk_aw envR_ok (none) ?_); try simp -implicitDefEqProofs (maxSteps := 1000000) only [go_sem, ↓reduceIte, reduceCtorEq, Nat.reduceLT, Nat.reduceEqDiff, Nat.reduceBEq, Nat.reduceAdd, Nat.reduceMul, Nat.reduceSub, Nat.reduceLeDiff, Int.reduceNeg, Int.reduceLT, Int.reduceLE, Int.reduceEq, Int.reduceAdd, Int.reduceToNat])
    (refine condW.br ?_ ?_ <;> intro e2 <;> (try simp only [Bool.not_eq_true', Bool.not_eq_false', decide_eq_false_iff_not, decide_eq_true_eq, Bool.false_eq_true, Bool.and_eq_true, Bool.or_eq_true] at e2))
    · ((try first | refine walk_aw env_ok (none) ?_ | refine walk_aw envR_ok (none) ?_); try simp -implicitDefEqProofs (maxSteps := 1000000) only [go_sem, ↓reduceIte, reduceCtorEq, Nat.reduceLT, Nat.reduceEqDiff, Nat.reduceBEq, Nat.reduceAdd, Nat.reduceMul, Nat.reduceSub, Nat.reduceLeDiff, Int.reduceNeg, Int.reduceLT, Int.reduceLE, Int.reduceEq, Int.reduceAdd, Int.reduceToNat])
      rw [show min (max n 0) 8 = 8 by omega] at h
      exact .inl h
    · ((try first | refine walk_aw env_ok (none) ?_ | refine walk_aw envR_ok (none) ?_); try simp -implicitDefEqProofs (maxSteps := 1000000) only [go_sem, ↓reduceIte, reduceCtorEq, Nat.reduceLT, Nat.reduceEqDiff, Nat.reduceBEq, Nat.reduceAdd, Nat.reduceMul, Nat.reduceSub, Nat.reduceLeDiff, Int.reduceNeg, Int.reduceLT, Int.reduceLE, Int.reduceEq, Int.reduceAdd, Int.reduceToNat])
      rw [show min (max n 0) 8 = n by omega] at h
      exact .inl h

end
end Go.Ab
end

section
/- Package sindriref01: numbers and bytes. -/
namespace Go.Ab
open V Go.Proofs
set_option maxHeartbeats 4000000
set_option maxRecDepth 10000
set_option linter.unusedSimpArgs false
set_option linter.unusedVariables false
section
variable {p : Nat} {s : CS} {H : Heap} {Q : A → Heap → Prop}

theorem set_set (H : Heap) (p : Nat) (x y : Ob Unit) : (H.set p x).set p y = H.set p y := List.set_set ..
theorem get_set {H : Heap} {p : Nat} {x y : Ob Unit} (h : H[p]? = some x) : (H.set p y)[p]? = some y := by
  rw [List.getElem?_set]
  have : p < H.length := by by_cases c : p < H.length; · exact c
                            · rw [List.getElem?_eq_none (by omega)] at h; simp at h
  simp [this]

theorem le_cons_drop (l : List UInt8) (i j : Nat) (hi : i < j) (hj : j ≤ l.length) : le ((l.take j).drop i) = (l[i]'(by omega)).toNat + 256 * le ((l.take j).drop (i + 1)) := by
  rw [List.drop_eq_getElem_cons (by rw [List.length_take]; omega)]
  simp only [le, List.getElem_take]

end
end Go.Ab
end

section
/- Packages leb and sindriref02: numbers of 7-bit bytes that are read. -/
namespace Go.Ab
open V Go.Proofs
set_option maxHeartbeats 4000000
set_option maxRecDepth 10000
set_option linter.unusedSimpArgs false
set_option linter.unusedVariables false

/-- The 7-bit parts of a number, of at most k bytes; none: it is refused. -/
def seven : Nat → CS → Option (List Nat) × CS
  | 0, s => (none, s.fail 11)
  | k + 1, s =>
    let r := s.take 1
    if r.2.err = 0 then
      (if le r.1 < 128 then (some [le r.1], r.2) else
        match seven k r.2 with
        | (some l, s2) => (some (le r.1 % 128 :: l), s2)
        | (none, s2) => (none, s2))
    else (none, r.2)

def val7 : List Nat → Nat
  | [] => 0
  | x :: l => x + 128 * val7 l

/-- A number that is not below 0. -/
def CS.uleb (s : CS) : Nat × CS :=
  match seven 10 s with
  | (some l, s2) => if l.length = 10 ∧ 1 < l.getD 9 0 then (0, s2.fail 11) else (val7 l, s2)
  | (none, s2) => (0, s2)

theorem CS.Ok.take {s : CS} (h : s.Ok) (n : Nat) : (s.take n).2.Ok := by
  obtain ⟨o1, o2, o3, o4⟩ := h
  unfold CS.take
  split
  · split
    · exact ⟨by simp only; omega, o2, o3, o4⟩
    · exact ⟨o1, o2, by simp, by simp⟩
  · exact ⟨o1, o2, o3, o4⟩
theorem CS.take_b (s : CS) (n : Nat) : (s.take n).2.b = s.b := by
  unfold CS.take; split
  · split <;> rfl
  · rfl
theorem CS.fail_b (s : CS) (e : Int) : (s.fail e).b = s.b := by unfold CS.fail; split <;> rfl
theorem CS.Ok.fail {s : CS} (h : s.Ok) {e : Int} (h0 : 0 ≤ e) (h1 : e < 1000000) : (s.fail e).Ok := by
  obtain ⟨o1, o2, o3, o4⟩ := h
  unfold CS.fail
  split
  · exact ⟨o1, o2, h0, h1⟩
  · exact ⟨o1, o2, o3, o4⟩
theorem le1 (s : CS) : le (s.take 1).1 < 256 := by
  have := le_lt (s.take 1).1
  have := take_len s 1
  have : 256 ^ (s.take 1).1.length ≤ 256 ^ 1 := Nat.pow_le_pow_right (by omega) this
  omega
theorem seven_ok : ∀ (k : Nat) (s : CS), s.Ok → (seven k s).2.Ok ∧ (seven k s).2.b = s.b ∧ ∀ l, (seven k s).1 = some l → 1 ≤ l.length ∧ l.length ≤ k ∧ ∀ x ∈ l, x < 128
  | 0, s, h => ⟨h.fail (by omega) (by omega), s.fail_b 11, by simp [seven]⟩
  | k + 1, s, h => by
    have ih := seven_ok k (s.take 1).2 (h.take 1)
    have := le1 s
    simp only [seven]
    split
    · split
      · exact ⟨h.take 1, s.take_b 1, by rintro l ⟨⟩; exact ⟨by simp, by simp, by simp; omega⟩⟩
      · generalize seven k (s.take 1).2 = q at ih
        obtain ⟨r, s2⟩ := q
        cases r with
        | none => exact ⟨ih.1, ih.2.1.trans (s.take_b 1), by simp⟩
        | some l =>
          obtain ⟨i1, i2, i3⟩ := ih
          obtain ⟨j1, j2, j3⟩ := i3 l rfl
          refine ⟨i1, i2.trans (s.take_b 1), ?_⟩
          rintro l' ⟨⟩
          refine ⟨by simp, by simp only [List.length_cons]; omega, ?_⟩
          intro x hx
          rcases List.mem_cons.1 hx with rfl | hx
          · omega
          · exact j3 x hx
    · exact ⟨h.take 1, s.take_b 1, by simp⟩

theorem val7_lt : ∀ l : List Nat, (∀ x ∈ l, x < 128) → val7 l < 128 ^ l.length
  | [], _ => by simp [val7]
  | x :: l, h => by
    have := val7_lt l fun y hy => h y (by simp [hy])
    have := h x (by simp)
    simp only [val7, List.length_cons, Nat.pow_succ]; omega
theorem val7_append (l m : List Nat) : val7 (l ++ m) = val7 l + 128 ^ l.length * val7 m := by
  induction l with
  | nil => simp [val7]
  | cons x l ih =>
    simp only [List.cons_append, val7, ih, List.length_cons, Nat.pow_succ, Nat.mul_add]
    have : 128 * (128 ^ l.length * val7 m) = 128 ^ l.length * 128 * val7 m := by rw [Nat.mul_comm (128 ^ l.length) 128, Nat.mul_assoc]
    omega

section
variable {p : Nat} {s : CS} {H : Heap} {Q : A → Heap → Prop}

/-- The parts as an array of ten. -/
def pA (l : List Nat) : List A := (l ++ List.replicate (10 - l.length) 0).map fun (x : Nat) => V.int .u8 x
theorem pA_len {l : List Nat} (h : l.length ≤ 10) : (pA l).length = 10 := by simp [pA]; omega
theorem pA_put {l : List Nat} (h : l.length < 10) (x : Nat) : (pA l).take l.length ++ [V.int .u8 (x : Int)] ++ (pA l).drop (l.length + 1) = pA (l ++ [x]) := by
  obtain ⟨k, hk⟩ : ∃ k, 10 - l.length = k + 1 := ⟨9 - l.length, by omega⟩
  simp only [pA, hk, List.replicate_succ, List.length_append, List.length_cons, List.length_nil, show 10 - (l.length + (0 + 1)) = k by omega, List.map_append, List.map_cons, List.map_nil]
  rw [List.take_append_of_le_length (by simp), List.take_of_length_le (by simp), List.drop_append, List.drop_of_length_le (by simp)]
  simp
theorem pA_flagless (l : List Nat) : flaglessL (pA l) = true := by
  rw [flaglessL_all]; simp only [pA, List.all_eq_true, List.mem_map]; rintro _ ⟨x, _, rfl⟩; rfl
theorem pA_low (n : Nat) (l : List Nat) : lowL n (pA l) = true := by
  rw [lowL_all]; simp only [pA, List.all_eq_true, List.mem_map]; rintro _ ⟨x, _, rfl⟩; rfl
theorem pA_solid (l : List Nat) : (pA l).all solid = true := by
  simp only [pA, List.all_eq_true, List.mem_map]; rintro _ ⟨x, _, rfl⟩; rfl

theorem pA_take {l : List Nat} (h : l.length ≤ 10) : (pA l).take 10 = pA l := List.take_of_length_le (by rw [pA_len h]; omega)
theorem pA_drop {l : List Nat} (h : l.length ≤ 10) : (pA l).drop 10 = [] := List.drop_of_length_le (by rw [pA_len h]; omega)
theorem pA_mapl {l : List Nat} : (pA l).map lv1 = pA l := by
  have h : ∀ v ∈ pA l, lv1 v = v := by
    simp only [pA, List.mem_map]; rintro _ ⟨x, _, rfl⟩; rfl
  exact (List.map_congr_left h).trans (List.map_id' _)
attribute [go_sem] pA_flagless pA_low pA_solid pA_mapl
theorem toNat0 (n : Nat) : (0 : Nat) + (n : Int).toNat * 1 = n := by omega

def cat7 (l : List Nat) : Option (List Nat) × CS → Option (List Nat) × CS
  | (some m, s) => (some (l ++ m), s)
  | (none, s) => (none, s)
theorem cat7_cat (l m : List Nat) (q : Option (List Nat) × CS) : cat7 l (cat7 m q) = cat7 (l ++ m) q := by
  obtain ⟨r, s⟩ := q; cases r <;> simp [cat7]
theorem cat7_nil (q : Option (List Nat) × CS) : cat7 [] q = q := by
  obtain ⟨r, s⟩ := q; cases r <;> simp [cat7]
theorem seven_succ (k : Nat) (s : CS) (e : (s.take 1).2.err = 0) (h : ¬ le (s.take 1).1 < 128) : seven (k + 1) s = cat7 [le (s.take 1).1 % 128] (seven k (s.take 1).2) := by
  simp only [seven, if_pos e, if_neg h]
  generalize seven k (s.take 1).2 = q
  obtain ⟨r, s2⟩ := q; cases r <;> rfl
theorem take_fst {s : CS} {n : Nat} (e : (s.take n).2.err = 0) : (s.take n).1.length = n := by
  revert e; unfold CS.take; split
  · split
    · intro _; simp; omega
    · simp
  · rename_i h; intro e; exact absurd e h

theorem set_app {H : Heap} {p : Nat} (hp : p < H.length) (x y : Ob Unit) (z : Ob Unit) : (H.set p x ++ [z]).set p y = H.set p y ++ [z] := by
  rw [List.set_append_left _ _ (by simp; omega), List.set_set]
theorem set_end (H : Heap) (p : Nat) (x y : Ob Unit) (z : Ob Unit) : (H.set p x ++ [z]).set H.length y = H.set p x ++ [y] := by
  rw [List.set_append_right _ _ (by simp), List.length_set, Nat.sub_self]; rfl
theorem get_app {H : Heap} {p : Nat} (hp : p < H.length) (x : Ob Unit) (z : Ob Unit) : (H.set p x ++ [z])[p]? = some x := by
  rw [List.getElem?_append_left (by simp; omega)]; simp [hp]
theorem get_end (H : Heap) (p : Nat) (x : Ob Unit) (z : Ob Unit) : (H.set p x ++ [z])[H.length]? = some z := by
  rw [List.getElem?_append_right (by simp)]; simp
theorem cut_end (H : Heap) (p : Nat) (x : Ob Unit) (z : Ob Unit) : (H.set p x ++ [z]).take H.length = H.set p x := by
  rw [List.take_append_of_le_length (by simp), List.take_of_length_le (by simp)]
theorem lt_of_get {H : Heap} {p : Nat} {x : Ob Unit} (hp : H[p]? = some x) : p < H.length := by
  by_cases c : p < H.length
  · exact c
  · rw [List.getElem?_eq_none (by omega)] at hp; simp at hp

theorem seven_spec (hs : s.Ok) (hp : H[p]? = some (.cells s.cur))
    (h1 : ∀ l, (seven 10 s).1 = some l → Q (.tup [.agg (pA l), .int .i64 l.length, .bool true]) (H.set p (.cells (seven 10 s).2.cur)))
    (h2 : ∀ l, l.length ≤ 10 → (seven 10 s).1 = none → Q (.tup [.agg (pA l), .int .i64 0, .bool false]) (H.set p (.cells (seven 10 s).2.cur))) :
    AC Try.prog 129 [.ptr (some (p, 0))] H Q := by
  have hlt := lt_of_get hp
  refine AC.enter (E := env Try.prog 28 (fun _ => .copy) (fun _ => false)) env_ok Try.func129 rfl rfl rfl (by simp only [List.length_cons, List.length_nil]; exact of_decide_eq_true rfl) ?_
  ((try first | refine walk_aw env_ok (none) ?_ | refine walk_aw envR_ok (none) ?_); try simp -implicitDefEqProofs (maxSteps := 1000000) only [go_sem, ↓reduceIte, reduceCtorEq, Nat.reduceLT, Nat.reduceEqDiff, Nat.reduceBEq, Nat.reduceAdd, Nat.reduceMul, Nat.reduceSub, Nat.reduceLeDiff, Int.reduceNeg, Int.reduceLT, Int.reduceLE, Int.reduceEq, Int.reduceAdd, Int.reduceToNat])
  refine AW.loop (fun st => ∃ l s1, l.length ≤ 10 ∧ (CS.Ok s1) ∧ seven 10 s = cat7 l (seven (10 - l.length) s1) ∧ st.H = H.set p (.cells s1.cur) ++ [.cells (pA l)] ∧ st.σ 3 = .int .i64 l.length ∧ st.σ 2 = .ptr (some (H.length, 0)) ∧ st.σ 0 = .ptr (some (p, 0)))
    (fun st => match st.σ 3 with | .int _ i => 10 - i.toNat | _ => 0) ⟨[], s, by simp, hs, (cat7_nil _).symm, by rw [set_same hp]; rfl, rfl, rfl, rfl⟩ ?_
  rintro ⟨σ, H2⟩ ⟨l, s1, hl, hs1, h7, rfl, h3, h2', h0⟩
  simp only at h3 h2' h0
  ((try first | refine walk_aw env_ok (none) ?_ | refine walk_aw envR_ok (none) ?_); try simp -implicitDefEqProofs (maxSteps := 1000000) only [go_sem, ↓reduceIte, reduceCtorEq, Nat.reduceLT, Nat.reduceEqDiff, Nat.reduceBEq, Nat.reduceAdd, Nat.reduceMul, Nat.reduceSub, Nat.reduceLeDiff, Int.reduceNeg, Int.reduceLT, Int.reduceLE, Int.reduceEq, Int.reduceAdd, Int.reduceToNat, h3])
  (refine condW.br ?_ ?_ <;> intro e <;> (try simp only [Bool.not_eq_true', Bool.not_eq_false', decide_eq_false_iff_not, decide_eq_true_eq, Bool.false_eq_true, Bool.and_eq_true, Bool.or_eq_true] at e))
  · ((try first | refine walk_aw env_ok (none) ?_ | refine walk_aw envR_ok (none) ?_); try simp -implicitDefEqProofs (maxSteps := 1000000) only [go_sem, ↓reduceIte, reduceCtorEq, Nat.reduceLT, Nat.reduceEqDiff, Nat.reduceBEq, Nat.reduceAdd, Nat.reduceMul, Nat.reduceSub, Nat.reduceLeDiff, Int.reduceNeg, Int.reduceLT, Int.reduceLE, Int.reduceEq, Int.reduceAdd, Int.reduceToNat, h3, h2', h0])
    refine U8_spec hs1 (get_app hlt _ _) ?_
    rw [set_app hlt]
    ((try first | refine walk_aw env_ok (none) ?_ | refine walk_aw envR_ok (none) ?_); try simp -implicitDefEqProofs (maxSteps := 1000000) only [go_sem, ↓reduceIte, reduceCtorEq, Nat.reduceLT, Nat.reduceEqDiff, Nat.reduceBEq, Nat.reduceAdd, Nat.reduceMul, Nat.reduceSub, Nat.reduceLeDiff, Int.reduceNeg, Int.reduceLT, Int.reduceLE, Int.reduceEq, Int.reduceAdd, Int.reduceToNat, h3, h2', h0])
    refine Err_spec (get_app hlt _ _) ?_
    ((try first | refine walk_aw env_ok (none) ?_ | refine walk_aw envR_ok (none) ?_); try simp -implicitDefEqProofs (maxSteps := 1000000) only [go_sem, ↓reduceIte, reduceCtorEq, Nat.reduceLT, Nat.reduceEqDiff, Nat.reduceBEq, Nat.reduceAdd, Nat.reduceMul, Nat.reduceSub, Nat.reduceLeDiff, Int.reduceNeg, Int.reduceLT, Int.reduceLE, Int.reduceEq, Int.reduceAdd, Int.reduceToNat, h3, h2', h0])
    (refine condW.br ?_ ?_ <;> intro e2 <;> (try simp only [Bool.not_eq_true', Bool.not_eq_false', decide_eq_false_iff_not, decide_eq_true_eq, Bool.false_eq_true, Bool.and_eq_true, Bool.or_eq_true] at e2))
    · ((try first | refine walk_aw env_ok (none) ?_ | refine walk_aw envR_ok (none) ?_); try simp -implicitDefEqProofs (maxSteps := 1000000) only [go_sem, ↓reduceIte, reduceCtorEq, Nat.reduceLT, Nat.reduceEqDiff, Nat.reduceBEq, Nat.reduceAdd, Nat.reduceMul, Nat.reduceSub, Nat.reduceLeDiff, Int.reduceNeg, Int.reduceLT, Int.reduceLE, Int.reduceEq, Int.reduceAdd, Int.reduceToNat, h2', get_end, pA_take hl, pA_len hl, pA_drop hl, set_end, cut_end])
      refine .inr ?_
      have h7' : seven (10 - l.length) s1 = (none, (s1.take 1).2) := by
        rw [show 10 - l.length = (9 - l.length) + 1 by omega]; simp only [seven, if_neg e2]
      rw [h7', cat7] at h7
      have := h2 l hl (by rw [h7])
      rw [h7] at this
      exact this
    · have hx := le1 s1
      have e2' : (s1.take 1).2.err = 0 := by omega
      have hl1 : (l ++ [le (s1.take 1).1 % 128]).length ≤ 10 := by simp; omega
      have h7a : seven (10 - l.length) s1 = if le (s1.take 1).1 < 128 then (some [le (s1.take 1).1], (s1.take 1).2) else cat7 [le (s1.take 1).1 % 128] (seven (9 - l.length) (s1.take 1).2) := by
        rw [show 10 - l.length = (9 - l.length) + 1 by omega]
        split
        · rename_i c; simp only [seven, if_pos e2', if_pos c]
        · rename_i c; exact seven_succ _ _ e2' c
      ((try first | refine walk_aw env_ok (none) ?_ | refine walk_aw envR_ok (none) ?_); try simp -implicitDefEqProofs (maxSteps := 1000000) (disch := omega) only [go_sem, ↓reduceIte, reduceCtorEq, Nat.reduceLT, Nat.reduceEqDiff, Nat.reduceBEq, Nat.reduceAdd, Nat.reduceMul, Nat.reduceSub, Nat.reduceLeDiff, Int.reduceNeg, Int.reduceLT, Int.reduceLE, Int.reduceEq, Int.reduceAdd, Int.reduceToNat, IntWalk.i64_in, IntWalk.u64_in, IntWalk.u8_in, if_pos, if_neg, Bool.and_eq_true, decide_eq_true_eq, h3, h2', h0, and127 (a := le (s1.take 1).1) (by omega), get_end, pA_len hl, pA_put (l := l) (by omega), set_end])
      (refine condW.br ?_ ?_ <;> intro e3 <;> (try simp only [Bool.not_eq_true', Bool.not_eq_false', decide_eq_false_iff_not, decide_eq_true_eq, Bool.false_eq_true, Bool.and_eq_true, Bool.or_eq_true] at e3))
      · ((try first | refine walk_aw env_ok (none) ?_ | refine walk_aw envR_ok (none) ?_); try simp -implicitDefEqProofs (maxSteps := 1000000) only [go_sem, ↓reduceIte, reduceCtorEq, Nat.reduceLT, Nat.reduceEqDiff, Nat.reduceBEq, Nat.reduceAdd, Nat.reduceMul, Nat.reduceSub, Nat.reduceLeDiff, Int.reduceNeg, Int.reduceLT, Int.reduceLE, Int.reduceEq, Int.reduceAdd, Int.reduceToNat, h2', get_end, pA_take hl1, pA_len hl1, pA_drop hl1, set_end, cut_end])
        refine .inr ?_
        rw [h7a, if_pos (by omega), cat7] at h7
        have := h1 _ (by rw [h7])
        rw [h7] at this
        simp only [List.length_append, List.length_cons, List.length_nil] at this
        rw [show le (s1.take 1).1 % 128 = le (s1.take 1).1 by omega]
        exact this
      · ((try first | refine walk_aw env_ok (none) ?_ | refine walk_aw envR_ok (none) ?_); try simp -implicitDefEqProofs (maxSteps := 1000000) (disch := omega) only [go_sem, ↓reduceIte, reduceCtorEq, Nat.reduceLT, Nat.reduceEqDiff, Nat.reduceBEq, Nat.reduceAdd, Nat.reduceMul, Nat.reduceSub, Nat.reduceLeDiff, Int.reduceNeg, Int.reduceLT, Int.reduceLE, Int.reduceEq, Int.reduceAdd, Int.reduceToNat, IntWalk.i64_in, IntWalk.u64_in, IntWalk.u8_in, if_pos, if_neg, Bool.and_eq_true, decide_eq_true_eq, h3])
        rw [h7a, if_neg (by omega)] at h7
        refine ⟨⟨l ++ [le (s1.take 1).1 % 128], (s1.take 1).2, hl1, hs1.take 1, ?_, rfl, ?_, h2', h0⟩, by omega⟩
        · rw [h7, cat7_cat]; congr 2; rw [List.length_append, List.length_cons, List.length_nil]; omega
        · simp
  · ((try first | refine walk_aw env_ok (none) ?_ | refine walk_aw envR_ok (none) ?_); try simp -implicitDefEqProofs (maxSteps := 1000000) only [go_sem, ↓reduceIte, reduceCtorEq, Nat.reduceLT, Nat.reduceEqDiff, Nat.reduceBEq, Nat.reduceAdd, Nat.reduceMul, Nat.reduceSub, Nat.reduceLeDiff, Int.reduceNeg, Int.reduceLT, Int.reduceLE, Int.reduceEq, Int.reduceAdd, Int.reduceToNat, h0])
    refine Fail_spec (get_app hlt _ _) ?_
    rw [set_app hlt]
    ((try first | refine walk_aw env_ok (none) ?_ | refine walk_aw envR_ok (none) ?_); try simp -implicitDefEqProofs (maxSteps := 1000000) only [go_sem, ↓reduceIte, reduceCtorEq, Nat.reduceLT, Nat.reduceEqDiff, Nat.reduceBEq, Nat.reduceAdd, Nat.reduceMul, Nat.reduceSub, Nat.reduceLeDiff, Int.reduceNeg, Int.reduceLT, Int.reduceLE, Int.reduceEq, Int.reduceAdd, Int.reduceToNat, h2', get_end, pA_take hl, pA_len hl, pA_drop hl, set_end, cut_end])
    refine .inr ?_
    rw [show 10 - l.length = 0 by omega, seven, cat7] at h7
    have := h2 l hl (by rw [h7])
    rw [h7] at this
    exact this
end
end Go.Ab
end

section
/- Package leb: numbers that are read. -/
namespace Go.Ab
open V Go.Proofs
set_option maxHeartbeats 4000000
set_option maxRecDepth 10000
set_option linter.unusedSimpArgs false
set_option linter.unusedVariables false

/-- The parts, filled up. -/
def p10 (l : List Nat) : List Nat := l ++ List.replicate (10 - l.length) 0
theorem val7_zeros (k : Nat) : val7 (List.replicate k 0) = 0 := by
  induction k with
  | zero => rfl
  | succ k ih => simp [List.replicate_succ, val7, ih]
theorem val7_p10 (l : List Nat) : val7 (p10 l) = val7 l := by rw [p10, val7_append, val7_zeros]; simp
theorem p10_len {l : List Nat} (h : l.length ≤ 10) : (p10 l).length = 10 := by simp [p10]; omega
theorem p10_lt {l : List Nat} (h : ∀ x ∈ l, x < 128) : ∀ x ∈ p10 l, x < 128 := by
  intro x hx
  rcases List.mem_append.1 hx with hx | hx
  · exact h x hx
  · rw [(List.mem_replicate.1 hx).2]; omega
theorem pA_at {l : List Nat} {i : Nat} (h : i < (p10 l).length) : (pA l)[i]? = some (.int .u8 ((p10 l)[i] : Nat)) := by
  show ((p10 l).map _)[i]? = _
  rw [List.getElem?_map, List.getElem?_eq_getElem h]; rfl
theorem val7_snoc (l : List Nat) (x : Nat) : val7 (l ++ [x]) = val7 l + x * 2 ^ (7 * l.length) := by
  rw [val7_append, show (128 : Nat) = 2 ^ 7 from rfl, ← Nat.pow_mul]; simp [val7, Nat.mul_comm]

theorem get_last (H : Heap) (x : Ob Unit) : (H ++ [x])[H.length]? = some x := by simp

section
variable {p : Nat} {s : CS} {H : Heap} {Q : A → Heap → Prop}

theorem whole_spec {l : List Nat} (hl : l.length ≤ 10) (hx : ∀ x ∈ l, x < 128) (h : Q (.int .u64 (val7 l % 18446744073709551616 : Nat)) H) : AC Try.prog 130 [.agg (pA l)] H Q := by
  refine AC.enter (E := env Try.prog 21 (fun _ => .copy) (fun _ => false)) env_ok Try.func130 rfl rfl rfl (by simp only [List.length_cons, List.length_nil]; exact of_decide_eq_true rfl) ?_
  ((try first | refine walk_aw env_ok (none) ?_ | refine walk_aw envR_ok (none) ?_); try simp -implicitDefEqProofs (maxSteps := 1000000) (disch := omega) only [go_sem, ↓reduceIte, reduceCtorEq, Nat.reduceLT, Nat.reduceEqDiff, Nat.reduceBEq, Nat.reduceAdd, Nat.reduceMul, Nat.reduceSub, Nat.reduceLeDiff, Int.reduceNeg, Int.reduceLT, Int.reduceLE, Int.reduceEq, Int.reduceAdd, Int.reduceToNat, IntWalk.i64_in, IntWalk.u64_in, IntWalk.u8_in, if_pos, if_neg, Bool.and_eq_true, decide_eq_true_eq, pA_len hl, get_last, pA_take hl])
  refine AW.loop (fun st => ∃ i : Nat, i ≤ 10 ∧ st.σ 7 = .int .i64 i ∧ st.σ 6 = .agg (pA l) ∧ st.σ 3 = .int .u64 (val7 ((p10 l).take i) % 18446744073709551616 : Nat) ∧ st.H.take H.length = H)
    (fun st => match st.σ 7 with | .int _ i => 10 - i.toNat | _ => 0) ⟨0, by omega, rfl, rfl, rfl, by simp⟩ ?_
  rintro ⟨σ, H2⟩ ⟨i, hi, h7, h6, h3, hH⟩
  simp only at h7 h6 h3 hH
  have hlen := p10_len hl
  ((try first | refine walk_aw env_ok (none) ?_ | refine walk_aw envR_ok (none) ?_); try simp -implicitDefEqProofs (maxSteps := 1000000) only [go_sem, ↓reduceIte, reduceCtorEq, Nat.reduceLT, Nat.reduceEqDiff, Nat.reduceBEq, Nat.reduceAdd, Nat.reduceMul, Nat.reduceSub, Nat.reduceLeDiff, Int.reduceNeg, Int.reduceLT, Int.reduceLE, Int.reduceEq, Int.reduceAdd, Int.reduceToNat, h7])
  (refine condW.br ?_ ?_ <;> intro e <;> (try simp only [Bool.not_eq_true', Bool.not_eq_false', decide_eq_false_iff_not, decide_eq_true_eq, Bool.false_eq_true, Bool.and_eq_true, Bool.or_eq_true] at e))
  · have hi' : i < (p10 l).length := by omega
    have hxi := p10_lt hx _ (List.getElem_mem hi')
    have hle := val7_lt ((p10 l).take i) fun x h => p10_lt hx x (List.mem_of_mem_take h)
    rw [List.length_take, Nat.min_eq_left (by omega), show (128 : Nat) = 2 ^ 7 from rfl, ← Nat.pow_mul] at hle
    have e17 : IntKind.u64.wrap (((p10 l)[i] : Int) * 2 ^ min (7 * (i : Int)).toNat 64) = (((p10 l)[i] * 2 ^ (7 * i) % 18446744073709551616 : Nat) : Int) := by
      rw [show (7 * (i : Int)).toNat = 7 * i by omega, Nat.min_eq_left (by omega), show ((p10 l)[i] : Int) * 2 ^ (7 * i) = (((p10 l)[i] * 2 ^ (7 * i) : Nat) : Int) by simp, IntKind.wrap_u64]
      omega
    have e18 : bitsI .or .u64 (val7 ((p10 l).take i) % 18446744073709551616 : Nat) ((p10 l)[i] * 2 ^ (7 * i) % 18446744073709551616 : Nat) = (val7 ((p10 l).take (i + 1)) % 18446744073709551616 : Nat) := by
      rw [bits_or (by omega) (by omega), show (18446744073709551616 : Nat) = 2 ^ 64 from rfl, ← Nat.or_mod_two_pow, or_high hle, List.take_succ_eq_append_getElem hi', val7_snoc, List.length_take, Nat.min_eq_left (by omega)]
    ((try first | refine walk_aw env_ok (none) ?_ | refine walk_aw envR_ok (none) ?_); try simp -implicitDefEqProofs (maxSteps := 1000000) (disch := omega) only [go_sem, ↓reduceIte, reduceCtorEq, Nat.reduceLT, Nat.reduceEqDiff, Nat.reduceBEq, Nat.reduceAdd, Nat.reduceMul, Nat.reduceSub, Nat.reduceLeDiff, Int.reduceNeg, Int.reduceLT, Int.reduceLE, Int.reduceEq, Int.reduceAdd, Int.reduceToNat, IntWalk.i64_in, IntWalk.u64_in, IntWalk.u8_in, if_pos, if_neg, Bool.and_eq_true, decide_eq_true_eq, h7, h6, h3, pA_at hi', e17, e18])
    exact ⟨⟨i + 1, by omega, rfl, rfl, hH⟩, by omega⟩
  · ((try first | refine walk_aw env_ok (none) ?_ | refine walk_aw envR_ok (none) ?_); try simp -implicitDefEqProofs (maxSteps := 1000000) only [go_sem, ↓reduceIte, reduceCtorEq, Nat.reduceLT, Nat.reduceEqDiff, Nat.reduceBEq, Nat.reduceAdd, Nat.reduceMul, Nat.reduceSub, Nat.reduceLeDiff, Int.reduceNeg, Int.reduceLT, Int.reduceLE, Int.reduceEq, Int.reduceAdd, Int.reduceToNat, h7, h6, h3])
    refine .inr ?_
    rw [hH, List.take_of_length_le (by omega), val7_p10]
    exact h

theorem U_spec (hs : s.Ok) (hp : H[p]? = some (.cells s.cur)) (h : Q (.int .u64 s.uleb.1) (H.set p (.cells s.uleb.2.cur))) : AC Try.prog 86 [.ptr (some (p, 0))] H Q := by
  have hok := seven_ok 10 s hs
  unfold CS.uleb at h
  generalize hr : seven 10 s = r at h hok
  obtain ⟨q, s2⟩ := r
  simp only at hok
  refine AC.enter (E := env Try.prog 21 (fun _ => .copy) (fun _ => false)) env_ok Try.func86 rfl rfl rfl (by simp only [List.length_cons, List.length_nil]; exact of_decide_eq_true rfl) ?_
  ((try first | refine walk_aw env_ok (none) ?_ | refine walk_aw envR_ok (none) ?_); try simp -implicitDefEqProofs (maxSteps := 1000000) only [go_sem, ↓reduceIte, reduceCtorEq, Nat.reduceLT, Nat.reduceEqDiff, Nat.reduceBEq, Nat.reduceAdd, Nat.reduceMul, Nat.reduceSub, Nat.reduceLeDiff, Int.reduceNeg, Int.reduceLT, Int.reduceLE, Int.reduceEq, Int.reduceAdd, Int.reduceToNat])
  refine seven_spec hs hp ?_ ?_
  · rw [hr]
    rintro l rfl
    simp only at h ⊢
    obtain ⟨o1, o2, o3⟩ := hok
    obtain ⟨j1, j2, j3⟩ := o3 l rfl
    have hlt := lt_of_get hp
    have hp9 : 9 < (p10 l).length := by rw [p10_len j2]; omega
    have h9 : (p10 l)[9] = if l.length = 10 then l.getD 9 0 else 0 := by
      simp only [p10]
      split
      · rw [List.getElem_append_left (by omega)]; simp [List.getD_eq_getElem?_getD, List.getElem?_eq_getElem (show 9 < l.length by omega)]
      · rw [List.getElem_append_right (by omega)]; simp
    ((try first | refine walk_aw env_ok (none) ?_ | refine walk_aw envR_ok (none) ?_); try simp -implicitDefEqProofs (maxSteps := 1000000) (disch := omega) only [go_sem, ↓reduceIte, reduceCtorEq, Nat.reduceLT, Nat.reduceEqDiff, Nat.reduceBEq, Nat.reduceAdd, Nat.reduceMul, Nat.reduceSub, Nat.reduceLeDiff, Int.reduceNeg, Int.reduceLT, Int.reduceLE, Int.reduceEq, Int.reduceAdd, Int.reduceToNat, IntWalk.i64_in, IntWalk.u64_in, IntWalk.u8_in, if_pos, if_neg, Bool.and_eq_true, decide_eq_true_eq, pA_len j2, pA_drop j2, get_last, List.length_set, set_end, get_end, pA_at hp9])
    (refine condW.br ?_ ?_ <;> intro e <;> (try simp only [Bool.not_eq_true', Bool.not_eq_false', decide_eq_false_iff_not, decide_eq_true_eq, Bool.false_eq_true, Bool.and_eq_true, Bool.or_eq_true] at e))
    · ((try first | refine walk_aw env_ok (none) ?_ | refine walk_aw envR_ok (none) ?_); try simp -implicitDefEqProofs (maxSteps := 1000000) only [go_sem, ↓reduceIte, reduceCtorEq, Nat.reduceLT, Nat.reduceEqDiff, Nat.reduceBEq, Nat.reduceAdd, Nat.reduceMul, Nat.reduceSub, Nat.reduceLeDiff, Int.reduceNeg, Int.reduceLT, Int.reduceLE, Int.reduceEq, Int.reduceAdd, Int.reduceToNat])
      refine Fail_spec (get_app hlt _ _) ?_
      ((try first | refine walk_aw env_ok (none) ?_ | refine walk_aw envR_ok (none) ?_); try simp -implicitDefEqProofs (maxSteps := 1000000) only [go_sem, ↓reduceIte, reduceCtorEq, Nat.reduceLT, Nat.reduceEqDiff, Nat.reduceBEq, Nat.reduceAdd, Nat.reduceMul, Nat.reduceSub, Nat.reduceLeDiff, Int.reduceNeg, Int.reduceLT, Int.reduceLE, Int.reduceEq, Int.reduceAdd, Int.reduceToNat, set_app hlt])
      refine .inr ?_
      rw [cut_end]
      rw [if_pos (by split at h9 <;> omega)] at h
      exact h
    · ((try first | refine walk_aw env_ok (none) ?_ | refine walk_aw envR_ok (none) ?_); try simp -implicitDefEqProofs (maxSteps := 1000000) only [go_sem, ↓reduceIte, reduceCtorEq, Nat.reduceLT, Nat.reduceEqDiff, Nat.reduceBEq, Nat.reduceAdd, Nat.reduceMul, Nat.reduceSub, Nat.reduceLeDiff, Int.reduceNeg, Int.reduceLT, Int.reduceLE, Int.reduceEq, Int.reduceAdd, Int.reduceToNat, get_end, pA_len j2, pA_take j2])
      refine whole_spec j2 j3 ?_
      ((try first | refine walk_aw env_ok (none) ?_ | refine walk_aw envR_ok (none) ?_); try simp -implicitDefEqProofs (maxSteps := 1000000) only [go_sem, ↓reduceIte, reduceCtorEq, Nat.reduceLT, Nat.reduceEqDiff, Nat.reduceBEq, Nat.reduceAdd, Nat.reduceMul, Nat.reduceSub, Nat.reduceLeDiff, Int.reduceNeg, Int.reduceLT, Int.reduceLE, Int.reduceEq, Int.reduceAdd, Int.reduceToNat])
      refine .inr ?_
      rw [cut_end]
      rw [if_neg (by split at h9 <;> omega)] at h
      have : val7 l < 18446744073709551616 := by
        rcases Nat.lt_or_ge l.length 10 with c | c
        · have hv := val7_lt l j3
          have : 128 ^ l.length ≤ 128 ^ 9 := Nat.pow_le_pow_right (by omega) (by omega)
          omega
        · rw [if_pos (by omega)] at h9
          have hv := val7_lt (l.take 9) fun x hx => j3 x (List.mem_of_mem_take hx)
          have hd : l.getD 9 0 = l[9]'(by omega) := by simp [List.getD_eq_getElem?_getD, List.getElem?_eq_getElem (show 9 < l.length by omega)]
          have hs := List.take_succ_eq_append_getElem (show 9 < l.length by omega)
          rw [List.take_of_length_le (by omega)] at hs
          have hl9 : (l.take 9).length = 9 := by simp; omega
          rw [hs, val7_snoc]
          rw [hl9] at hv ⊢
          rw [h9, hd] at e
          omega
      rw [Nat.mod_eq_of_lt this]
      exact h
  · rw [hr]
    rintro l j2 rfl
    simp only at h ⊢
    ((try first | refine walk_aw env_ok (none) ?_ | refine walk_aw envR_ok (none) ?_); try simp -implicitDefEqProofs (maxSteps := 1000000) (disch := omega) only [go_sem, ↓reduceIte, reduceCtorEq, Nat.reduceLT, Nat.reduceEqDiff, Nat.reduceBEq, Nat.reduceAdd, Nat.reduceMul, Nat.reduceSub, Nat.reduceLeDiff, Int.reduceNeg, Int.reduceLT, Int.reduceLE, Int.reduceEq, Int.reduceAdd, Int.reduceToNat, IntWalk.i64_in, IntWalk.u64_in, IntWalk.u8_in, if_pos, if_neg, Bool.and_eq_true, decide_eq_true_eq, pA_len j2, pA_drop j2, get_last, List.length_set, set_end, get_end])
    refine .inr ?_
    rw [cut_end]
    exact h
end
end Go.Ab
end

section
/- Package leb: numbers with a sign that are read. -/
namespace Go.Ab
open V Go.Proofs
set_option maxHeartbeats 4000000
set_option maxRecDepth 10000
set_option linter.unusedSimpArgs false
set_option linter.unusedVariables false

/-- The number of the parts, with its sign. -/
def sval (l : List Nat) : Int := if l.getD (l.length - 1) 0 < 64 then (val7 l : Int) else val7 l - 128 ^ l.length

/-- A number with a sign. -/
def CS.sleb (s : CS) : Int × CS :=
  match seven 10 s with
  | (some l, s2) => if l.length = 10 ∧ l.getD 9 0 ≠ 0 ∧ l.getD 9 0 ≠ 127 then (0, s2.fail 11) else (sval l, s2)
  | (none, s2) => (0, s2)

theorem split_last {l : List Nat} (h : 1 ≤ l.length) : l = l.take (l.length - 1) ++ [l.getD (l.length - 1) 0] := by
  have hs := List.take_succ_eq_append_getElem (show l.length - 1 < l.length by omega)
  rw [show l.length - 1 + 1 = l.length by omega, List.take_length] at hs
  rw [List.getD_eq_getElem?_getD, List.getElem?_eq_getElem (show l.length - 1 < l.length by omega)]
  exact hs
theorem val7_last {l : List Nat} (h : 1 ≤ l.length) : val7 l = val7 (l.take (l.length - 1)) + l.getD (l.length - 1) 0 * 2 ^ (7 * (l.length - 1)) := by
  have h1 := split_last h
  have := val7_snoc (l.take (l.length - 1)) (l.getD (l.length - 1) 0)
  rw [← h1] at this
  rw [this, List.length_take, Nat.min_eq_left (by omega)]
theorem p10_at {l : List Nat} {i : Nat} (h : i < l.length) (h' : i < (p10 l).length) : (p10 l)[i] = l.getD i 0 := by
  simp only [p10]
  rw [List.getElem_append_left h]; simp [List.getD_eq_getElem?_getD, List.getElem?_eq_getElem h]

/-- A number of fewer than ten parts below 0: its upper bits are set. -/
theorem or_ones {a i : Nat} (h : a < 2 ^ i) (hi : i ≤ 64) : a ||| (18446744073709551615 * 2 ^ i) % 18446744073709551616 = a + (18446744073709551616 - 2 ^ i) := by
  have e : (18446744073709551615 * 2 ^ i) % 18446744073709551616 = (2 ^ (64 - i) - 1) * 2 ^ i := by
    have hp : 2 ^ (64 - i) * 2 ^ i = 18446744073709551616 := by rw [← Nat.pow_add, show 64 - i + i = 64 by omega]
    have h1 : 1 ≤ 2 ^ (64 - i) := Nat.one_le_two_pow
    have h2 : 1 ≤ 2 ^ i := Nat.one_le_two_pow
    have h3 : (2 ^ (64 - i) - 1) * 2 ^ i = 18446744073709551616 - 2 ^ i := by rw [Nat.sub_mul, hp]; omega
    have h4 : 18446744073709551615 * 2 ^ i = 18446744073709551616 * (2 ^ i - 1) + (18446744073709551616 - 2 ^ i) := by
      have : 2 ^ i ≤ 18446744073709551616 := by rw [← hp]; exact Nat.le_mul_of_pos_left _ (by omega)
      omega
    rw [h3, h4, Nat.mul_add_mod]
    exact Nat.mod_eq_of_lt (by omega)
  have hp : 2 ^ (64 - i) * 2 ^ i = 18446744073709551616 := by rw [← Nat.pow_add, show 64 - i + i = 64 by omega]
  rw [e, or_high h, Nat.sub_mul, hp]; omega

section
variable {p : Nat} {s : CS} {H : Heap} {Q : A → Heap → Prop}

theorem S_spec (hs : s.Ok) (hp : H[p]? = some (.cells s.cur)) (h : Q (.int .i64 s.sleb.1) (H.set p (.cells s.sleb.2.cur))) : AC Try.prog 87 [.ptr (some (p, 0))] H Q := by
  have hok := seven_ok 10 s hs
  unfold CS.sleb at h
  generalize hr : seven 10 s = r at h hok
  obtain ⟨q, s2⟩ := r
  simp only at hok
  refine AC.enter (E := env Try.prog 48 (fun _ => .copy) (fun _ => false)) env_ok Try.func87 rfl rfl rfl (by simp only [List.length_cons, List.length_nil]; exact of_decide_eq_true rfl) ?_
  ((try first | refine walk_aw env_ok (none) ?_ | refine walk_aw envR_ok (none) ?_); try simp -implicitDefEqProofs (maxSteps := 1000000) only [go_sem, ↓reduceIte, reduceCtorEq, Nat.reduceLT, Nat.reduceEqDiff, Nat.reduceBEq, Nat.reduceAdd, Nat.reduceMul, Nat.reduceSub, Nat.reduceLeDiff, Int.reduceNeg, Int.reduceLT, Int.reduceLE, Int.reduceEq, Int.reduceAdd, Int.reduceToNat])
  refine seven_spec hs hp ?_ ?_
  · rw [hr]
    rintro l rfl
    simp only at h ⊢
    obtain ⟨o1, o2, o3⟩ := hok
    obtain ⟨j1, j2, j3⟩ := o3 l rfl
    have hlt := lt_of_get hp
    have hlen := p10_len j2
    have hp9 : 9 < (p10 l).length := by omega
    ((try first | refine walk_aw env_ok (none) ?_ | refine walk_aw envR_ok (none) ?_); try simp -implicitDefEqProofs (maxSteps := 1000000) (disch := omega) only [go_sem, ↓reduceIte, reduceCtorEq, Nat.reduceLT, Nat.reduceEqDiff, Nat.reduceBEq, Nat.reduceAdd, Nat.reduceMul, Nat.reduceSub, Nat.reduceLeDiff, Int.reduceNeg, Int.reduceLT, Int.reduceLE, Int.reduceEq, Int.reduceAdd, Int.reduceToNat, IntWalk.i64_in, IntWalk.u64_in, IntWalk.u8_in, if_pos, if_neg, Bool.and_eq_true, decide_eq_true_eq, pA_len j2, pA_drop j2, get_end, get_last, List.length_set, set_end])
    by_cases c : l.length = 10 ∧ l.getD 9 0 ≠ 0 ∧ l.getD 9 0 ≠ 127
    · obtain ⟨c1, c2, c3⟩ := c
      have h9 := p10_at (l := l) (i := 9) (by omega) hp9
      rw [if_pos ⟨c1, c2, c3⟩] at h
      have c1' : ((l.length : Nat) : Int) = 10 := by omega
      have c2' : ¬ ((l.getD 9 0 : Nat) : Int) = 0 := by omega
      have c3' : ¬ ((l.getD 9 0 : Nat) : Int) = 127 := by omega
      ((try first | refine walk_aw env_ok (none) ?_ | refine walk_aw envR_ok (none) ?_); try simp -implicitDefEqProofs (maxSteps := 1000000) only [go_sem, ↓reduceIte, reduceCtorEq, Nat.reduceLT, Nat.reduceEqDiff, Nat.reduceBEq, Nat.reduceAdd, Nat.reduceMul, Nat.reduceSub, Nat.reduceLeDiff, Int.reduceNeg, Int.reduceLT, Int.reduceLE, Int.reduceEq, Int.reduceAdd, Int.reduceToNat, c1', get_end, pA_at hp9, h9, c2', c3'])
      refine Fail_spec (get_app hlt _ _) ?_
      ((try first | refine walk_aw env_ok (none) ?_ | refine walk_aw envR_ok (none) ?_); try simp -implicitDefEqProofs (maxSteps := 1000000) only [go_sem, ↓reduceIte, reduceCtorEq, Nat.reduceLT, Nat.reduceEqDiff, Nat.reduceBEq, Nat.reduceAdd, Nat.reduceMul, Nat.reduceSub, Nat.reduceLeDiff, Int.reduceNeg, Int.reduceLT, Int.reduceLE, Int.reduceEq, Int.reduceAdd, Int.reduceToNat, set_app hlt])
      refine .inr ?_
      rw [cut_end]
      exact h
    · rw [if_neg c] at h
      simp only at h
      rcases Nat.lt_or_ge l.length 10 with c1 | c1
      · have c1' : ¬ ((l.length : Nat) : Int) = 10 := by omega
        have c2' : ((l.length : Nat) : Int) < 10 := by omega
        have hn : l.length - 1 < (p10 l).length := by omega
        have hlast := p10_at (l := l) (i := l.length - 1) (by omega) hn
        have hv := val7_lt l j3
        have hpw : 128 ^ l.length ≤ 128 ^ 9 := Nat.pow_le_pow_right (by omega) (by omega)
        ((try first | refine walk_aw env_ok (none) ?_ | refine walk_aw envR_ok (none) ?_); try simp -implicitDefEqProofs (maxSteps := 1000000) only [go_sem, ↓reduceIte, reduceCtorEq, Nat.reduceLT, Nat.reduceEqDiff, Nat.reduceBEq, Nat.reduceAdd, Nat.reduceMul, Nat.reduceSub, Nat.reduceLeDiff, Int.reduceNeg, Int.reduceLT, Int.reduceLE, Int.reduceEq, Int.reduceAdd, Int.reduceToNat, c1', get_end, pA_len j2, pA_take j2])
        refine whole_spec j2 j3 ?_
        rw [Nat.mod_eq_of_lt (by omega)]
        ((try first | refine walk_aw env_ok (none) ?_ | refine walk_aw envR_ok (none) ?_); try simp -implicitDefEqProofs (maxSteps := 1000000) (disch := omega) only [go_sem, ↓reduceIte, reduceCtorEq, Nat.reduceLT, Nat.reduceEqDiff, Nat.reduceBEq, Nat.reduceAdd, Nat.reduceMul, Nat.reduceSub, Nat.reduceLeDiff, Int.reduceNeg, Int.reduceLT, Int.reduceLE, Int.reduceEq, Int.reduceAdd, Int.reduceToNat, IntWalk.i64_in, IntWalk.u64_in, IntWalk.u8_in, if_pos, if_neg, Bool.and_eq_true, decide_eq_true_eq, c2', get_end, show (l.length : Int) - 1 = ((l.length - 1 : Nat) : Int) by omega, pA_at hn, hlast, pA_len j2])
        (refine condW.br ?_ ?_ <;> intro e <;> (try simp only [Bool.not_eq_true', Bool.not_eq_false', decide_eq_false_iff_not, decide_eq_true_eq, Bool.false_eq_true, Bool.and_eq_true, Bool.or_eq_true] at e))
        · have hp7 : 128 ^ l.length = 2 ^ (7 * l.length) := by rw [show (128 : Nat) = 2 ^ 7 from rfl, ← Nat.pow_mul]
          have hle : 2 ^ (7 * l.length) ≤ 9223372036854775808 := by rw [← hp7]; exact hpw
          have e44 : IntKind.u64.wrap (18446744073709551615 * 2 ^ min (7 * (l.length : Int)).toNat 64) = ((18446744073709551615 * 2 ^ (7 * l.length) % 18446744073709551616 : Nat) : Int) := by
            rw [show (7 * (l.length : Int)).toNat = 7 * l.length by omega, Nat.min_eq_left (by omega), show (18446744073709551615 : Int) * 2 ^ (7 * l.length) = ((18446744073709551615 * 2 ^ (7 * l.length) : Nat) : Int) by simp, IntKind.wrap_u64]
            omega
          have e45 : bitsI .or .u64 (val7 l : Nat) (18446744073709551615 * 2 ^ (7 * l.length) % 18446744073709551616 : Nat) = (val7 l + (18446744073709551616 - 2 ^ (7 * l.length)) : Nat) := by
            rw [bits_or (by omega) (by omega), or_ones (by rw [← hp7]; exact hv) (by omega)]
          ((try first | refine walk_aw env_ok (none) ?_ | refine walk_aw envR_ok (none) ?_); try simp -implicitDefEqProofs (maxSteps := 1000000) (disch := omega) only [go_sem, ↓reduceIte, reduceCtorEq, Nat.reduceLT, Nat.reduceEqDiff, Nat.reduceBEq, Nat.reduceAdd, Nat.reduceMul, Nat.reduceSub, Nat.reduceLeDiff, Int.reduceNeg, Int.reduceLT, Int.reduceLE, Int.reduceEq, Int.reduceAdd, Int.reduceToNat, IntWalk.i64_in, IntWalk.u64_in, IntWalk.u8_in, if_pos, if_neg, Bool.and_eq_true, decide_eq_true_eq, e44, e45])
          rw [sval, if_neg (by omega), show (128 : Int) ^ l.length = ((128 ^ l.length : Nat) : Int) by simp, hp7] at h
          rw [IntKind.wrap_i64]
          refine .inr ?_
          rw [cut_end]
          have hvl := val7_last j1
          have hge : 2 ^ (7 * l.length) ≤ 2 * val7 l := by
            rw [show 7 * l.length = 7 * (l.length - 1) + 7 by omega, Nat.pow_add]
            have : 64 * 2 ^ (7 * (l.length - 1)) ≤ l.getD (l.length - 1) 0 * 2 ^ (7 * (l.length - 1)) := Nat.mul_le_mul_right _ (by omega)
            omega
          rw [show (((val7 l + (18446744073709551616 - 2 ^ (7 * l.length)) : Nat) : Int) + 9223372036854775808) % 18446744073709551616 - 9223372036854775808 = (val7 l : Int) - ((2 ^ (7 * l.length) : Nat) : Int) by rw [hp7] at hv; omega]
          exact h
        · ((try first | refine walk_aw env_ok (none) ?_ | refine walk_aw envR_ok (none) ?_); try simp -implicitDefEqProofs (maxSteps := 1000000) only [go_sem, ↓reduceIte, reduceCtorEq, Nat.reduceLT, Nat.reduceEqDiff, Nat.reduceBEq, Nat.reduceAdd, Nat.reduceMul, Nat.reduceSub, Nat.reduceLeDiff, Int.reduceNeg, Int.reduceLT, Int.reduceLE, Int.reduceEq, Int.reduceAdd, Int.reduceToNat])
          rw [sval, if_pos (by omega)] at h
          rw [IntWalk.i64_in _ (by omega)]
          refine .inr ?_
          rw [cut_end]
          exact h
      · have c1' : ((l.length : Nat) : Int) = 10 := by omega
        have hl10 : l.length = 10 := by omega
        have h9 := p10_at (l := l) (i := 9) (by omega) hp9
        have hv := val7_last (l := l) (by omega)
        rw [hl10, show (10 : Nat) - 1 = 9 from rfl] at hv
        have hv9 := val7_lt (l.take 9) fun x hx => j3 x (List.mem_of_mem_take hx)
        rw [show (l.take 9).length = 9 by simp; omega] at hv9
        rcases (show l.getD 9 0 = 0 ∨ l.getD 9 0 = 127 by omega) with c2 | c2
        · have c2' : ((l.getD 9 0 : Nat) : Int) = 0 := by rw [c2]; rfl
          rw [c2] at hv
          ((try first | refine walk_aw env_ok (none) ?_ | refine walk_aw envR_ok (none) ?_); try simp -implicitDefEqProofs (maxSteps := 1000000) only [go_sem, ↓reduceIte, reduceCtorEq, Nat.reduceLT, Nat.reduceEqDiff, Nat.reduceBEq, Nat.reduceAdd, Nat.reduceMul, Nat.reduceSub, Nat.reduceLeDiff, Int.reduceNeg, Int.reduceLT, Int.reduceLE, Int.reduceEq, Int.reduceAdd, Int.reduceToNat, c1', get_end, pA_len j2, pA_take j2, pA_at hp9, h9, c2'])
          refine whole_spec j2 j3 ?_
          rw [Nat.mod_eq_of_lt (by omega)]
          ((try first | refine walk_aw env_ok (none) ?_ | refine walk_aw envR_ok (none) ?_); try simp -implicitDefEqProofs (maxSteps := 1000000) only [go_sem, ↓reduceIte, reduceCtorEq, Nat.reduceLT, Nat.reduceEqDiff, Nat.reduceBEq, Nat.reduceAdd, Nat.reduceMul, Nat.reduceSub, Nat.reduceLeDiff, Int.reduceNeg, Int.reduceLT, Int.reduceLE, Int.reduceEq, Int.reduceAdd, Int.reduceToNat, c1'])
          rw [IntWalk.i64_in _ (by omega)]
          refine .inr ?_
          rw [cut_end]
          rw [sval, hl10, show (10 : Nat) - 1 = 9 from rfl, if_pos (by omega)] at h
          exact h
        · have c2' : ((l.getD 9 0 : Nat) : Int) = 127 := by rw [c2]; rfl
          rw [c2] at hv
          ((try first | refine walk_aw env_ok (none) ?_ | refine walk_aw envR_ok (none) ?_); try simp -implicitDefEqProofs (maxSteps := 1000000) only [go_sem, ↓reduceIte, reduceCtorEq, Nat.reduceLT, Nat.reduceEqDiff, Nat.reduceBEq, Nat.reduceAdd, Nat.reduceMul, Nat.reduceSub, Nat.reduceLeDiff, Int.reduceNeg, Int.reduceLT, Int.reduceLE, Int.reduceEq, Int.reduceAdd, Int.reduceToNat, c1', get_end, pA_len j2, pA_take j2, pA_at hp9, h9, c2'])
          refine whole_spec j2 j3 ?_
          ((try first | refine walk_aw env_ok (none) ?_ | refine walk_aw envR_ok (none) ?_); try simp -implicitDefEqProofs (maxSteps := 1000000) only [go_sem, ↓reduceIte, reduceCtorEq, Nat.reduceLT, Nat.reduceEqDiff, Nat.reduceBEq, Nat.reduceAdd, Nat.reduceMul, Nat.reduceSub, Nat.reduceLeDiff, Int.reduceNeg, Int.reduceLT, Int.reduceLE, Int.reduceEq, Int.reduceAdd, Int.reduceToNat, c1'])
          rw [sval, hl10, show (10 : Nat) - 1 = 9 from rfl, if_neg (by omega)] at h
          rw [IntKind.wrap_i64]
          refine .inr ?_
          rw [cut_end]
          rw [show (((val7 l % 18446744073709551616 : Nat) : Int) + 9223372036854775808) % 18446744073709551616 - 9223372036854775808 = (val7 l : Int) - 128 ^ 10 by omega]
          exact h
  · rw [hr]
    rintro l j2 rfl
    simp only at h ⊢
    ((try first | refine walk_aw env_ok (none) ?_ | refine walk_aw envR_ok (none) ?_); try simp -implicitDefEqProofs (maxSteps := 1000000) (disch := omega) only [go_sem, ↓reduceIte, reduceCtorEq, Nat.reduceLT, Nat.reduceEqDiff, Nat.reduceBEq, Nat.reduceAdd, Nat.reduceMul, Nat.reduceSub, Nat.reduceLeDiff, Int.reduceNeg, Int.reduceLT, Int.reduceLE, Int.reduceEq, Int.reduceAdd, Int.reduceToNat, IntWalk.i64_in, IntWalk.u64_in, IntWalk.u8_in, if_pos, if_neg, Bool.and_eq_true, decide_eq_true_eq, pA_len j2, pA_drop j2, get_end, get_last, List.length_set, set_end, get_end])
    refine .inr ?_
    rw [cut_end]
    exact h
end
end Go.Ab
end

section
/- Package leb: numbers with a sign are put. -/
namespace Go.Ab
open V Go.Proofs
set_option maxHeartbeats 4000000
set_option maxRecDepth 10000
set_option linter.unusedSimpArgs false
set_option linter.unusedVariables false

/-- The 7-bit parts of a number with a sign. -/
def partsS (n : Int) : List Nat := if h : -64 ≤ n ∧ n < 64 then [(n % 128).toNat] else (n % 128).toNat :: partsS (n / 128)
termination_by n.natAbs
decreasing_by omega
theorem partsS_ne (n : Int) : partsS n ≠ [] := by unfold partsS; split <;> simp
theorem partsS_lt' : ∀ (m : Nat) (n : Int), n.natAbs = m → ∀ x ∈ partsS n, x < 128 := by
  intro m
  induction m using Nat.strongRecOn with
  | _ m ih =>
    intro n hm x hx
    unfold partsS at hx
    split at hx
    · simp at hx; omega
    · rcases List.mem_cons.1 hx with rfl | hx
      · omega
      · exact ih _ (by omega) (n / 128) rfl x hx
theorem partsS_lt (n : Int) (hn : -9223372036854775808 ≤ n ∧ n < 9223372036854775808) : ∀ x ∈ partsS n, x < 128 := partsS_lt' _ n rfl
theorem partsS_len' : ∀ (k : Nat) (n : Int), -(64 * 128 ^ k : Nat) ≤ n ∧ n < (64 * 128 ^ k : Nat) → (partsS n).length ≤ k + 1 := by
  intro k
  induction k with
  | zero => intro n h; unfold partsS; rw [dif_pos (by omega)]; simp
  | succ k ih =>
    intro n h
    unfold partsS
    split
    · simp
    · rw [Nat.pow_succ] at h
      have := ih (n / 128) (by omega)
      simp only [List.length_cons]; omega
theorem partsS_len (n : Int) (hn : -9223372036854775808 ≤ n ∧ n < 9223372036854775808) : (partsS n).length ≤ 10 := by
  refine partsS_len' 9 n ?_
  have : (64 * 128 ^ 9 : Nat) = 590295810358705651712 := by decide
  omega
theorem shr7s (n : Int) : n.fdiv (2 ^ min 7 64) = n / 128 := by
  rw [show min 7 64 = 7 by decide, Int.fdiv_eq_ediv_of_nonneg _ (by decide)]; rfl
theorem and127s {n : Int} (hn : -9223372036854775808 ≤ n ∧ n < 9223372036854775808) : bitsI .and .i64 n 127 = n % 128 := by
  have h1 : (BitVec.ofInt 64 n).toNat = (n % 18446744073709551616).toNat := by rw [BitVec.toNat_ofInt]; rfl
  have h2 : (BitVec.ofInt 64 127).toNat = 127 := by decide
  show IntKind.i64.wrap ((BitVec.ofInt 64 n &&& BitVec.ofInt 64 127).toNat : Nat) = _
  rw [BitVec.toNat_and, h1, h2, show (127 : Nat) = 2 ^ 7 - 1 from rfl, Nat.and_two_pow_sub_one_eq_mod, IntWalk.i64_in _ (by omega)]
  omega

theorem signed_spec {n : Int} {H : Heap} {Q : A → Heap → Prop} (h : Q (.fn (.func 145) [] [.ptr (some (H.length, 0))]) (H ++ [.cells [.int .i64 n]])) :
    AC Try.prog 141 [.int .i64 n] H Q := by
  refine AC.enter (E := env Try.prog 4 (fun _ => .copy) (fun _ => false)) env_ok Try.func141 rfl rfl rfl (by simp only [List.length_cons, List.length_nil]; exact of_decide_eq_true rfl) ?_
  ((try first | refine walk_aw env_ok (none) ?_ | refine walk_aw envR_ok (none) ?_); try simp -implicitDefEqProofs (maxSteps := 1000000) only [go_sem, ↓reduceIte, reduceCtorEq, Nat.reduceLT, Nat.reduceEqDiff, Nat.reduceBEq, Nat.reduceAdd, Nat.reduceMul, Nat.reduceSub, Nat.reduceLeDiff, Int.reduceNeg, Int.reduceLT, Int.reduceLE, Int.reduceEq, Int.reduceAdd, Int.reduceToNat])
  exact .inl h

theorem signed1_spec {l i : Nat} {K : List Nat → Int → Heap} (hget : ∀ bs m, (K bs m)[i]? = some (.cells [.int .i64 m])) (hset : ∀ bs m m' : _, (K bs m).set i (.cells [.int .i64 m']) = K bs m')
    {n : Int} (hy : ∀ bs m (x : Nat) rest, bs ++ x :: rest = partsS n → x < 128 → AY Try.prog l [.int .u8 x] (K bs m) (fun r H => r = .bool true ∧ H = K (bs ++ [x]) m))
    (hn : -9223372036854775808 ≤ n ∧ n < 9223372036854775808) {Q : A → Heap → Prop} (h : ∀ z, Q (.tup []) (K (partsS n) z)) : AC Try.prog 145 [.fn (.yield l) [] [], .ptr (some (i, 0))] (K [] n) Q := by
  refine AC.enter (E := env Try.prog 29 (fun _ => .copy) (fun _ => false)) env_ok Try.func145 rfl rfl rfl (by simp only [List.length_cons, List.length_nil]; exact of_decide_eq_true rfl) ?_
  ((try first | refine walk_aw env_ok (none) ?_ | refine walk_aw envR_ok (none) ?_); try simp -implicitDefEqProofs (maxSteps := 1000000) only [go_sem, ↓reduceIte, reduceCtorEq, Nat.reduceLT, Nat.reduceEqDiff, Nat.reduceBEq, Nat.reduceAdd, Nat.reduceMul, Nat.reduceSub, Nat.reduceLeDiff, Int.reduceNeg, Int.reduceLT, Int.reduceLE, Int.reduceEq, Int.reduceAdd, Int.reduceToNat])
  refine AW.loop (fun st => ∃ bs m, st.σ 0 = .fn (.yield l) [] [] ∧ st.σ 1 = .ptr (some (i, 0)) ∧ st.H = K bs m ∧ (-9223372036854775808 ≤ m ∧ m < 9223372036854775808) ∧ bs ++ partsS m = partsS n) (fun st => match st.H[i]? with | some (.cells [.int _ m]) => m.natAbs | _ => 0) ⟨[], n, rfl, rfl, rfl, hn, rfl⟩ ?_
  rintro ⟨σ, H2⟩ ⟨bs, m, s0, s1, rfl, hm, hp⟩
  simp only at s0 s1
  obtain ⟨x, hx⟩ : ∃ x : Nat, m % 128 = (x : Int) := ⟨(m % 128).toNat, by omega⟩
  have h128 : x < 128 := by omega
  ((try first | refine walk_aw env_ok (none) ?_ | refine walk_aw envR_ok (none) ?_); try simp -implicitDefEqProofs (maxSteps := 1000000) only [go_sem, ↓reduceIte, reduceCtorEq, Nat.reduceLT, Nat.reduceEqDiff, Nat.reduceBEq, Nat.reduceAdd, Nat.reduceMul, Nat.reduceSub, Nat.reduceLeDiff, Int.reduceNeg, Int.reduceLT, Int.reduceLE, Int.reduceEq, Int.reduceAdd, Int.reduceToNat, s0, s1, hget, and127s hm, hx, IntWalk.u8_in _ (show 0 ≤ (x : Int) ∧ (x : Int) ≤ 255 by omega), hset, shr7s])
  have hrest : ∃ rest, bs ++ x :: rest = partsS n := by
    rw [← hp]
    by_cases c : -64 ≤ m ∧ m < 64
    · exact ⟨[], by rw [partsS, dif_pos c, hx]; rfl⟩
    · exact ⟨partsS (m / 128), by rw [partsS.eq_def m, dif_neg c, hx]; rfl⟩
  obtain ⟨rest, hrest⟩ := hrest
  refine (hy bs (m / 128) x rest hrest h128).mono ?_
  rintro r H ⟨rfl, rfl⟩
  by_cases c : -64 ≤ m ∧ m < 64
  · have e : partsS m = [x] := by unfold partsS; rw [dif_pos c, hx]; rfl
    rw [e] at hp
    have hh := h (m / 128)
    rw [← hp] at hh
    by_cases c1 : m / 128 = 0
    · have c2 : (x : Int) < 64 := by omega
      ((try first | refine walk_aw env_ok (none) ?_ | refine walk_aw envR_ok (none) ?_); try simp -implicitDefEqProofs (maxSteps := 1000000) only [go_sem, ↓reduceIte, reduceCtorEq, Nat.reduceLT, Nat.reduceEqDiff, Nat.reduceBEq, Nat.reduceAdd, Nat.reduceMul, Nat.reduceSub, Nat.reduceLeDiff, Int.reduceNeg, Int.reduceLT, Int.reduceLE, Int.reduceEq, Int.reduceAdd, Int.reduceToNat, s0, s1, hget, hset, c1, c2])
      rw [c1] at hh
      exact .inl hh
    · have c2 : m / 128 = -1 := by omega
      have c3 : (x : Int) ≥ 64 := by omega
      ((try first | refine walk_aw env_ok (none) ?_ | refine walk_aw envR_ok (none) ?_); try simp -implicitDefEqProofs (maxSteps := 1000000) only [go_sem, ↓reduceIte, reduceCtorEq, Nat.reduceLT, Nat.reduceEqDiff, Nat.reduceBEq, Nat.reduceAdd, Nat.reduceMul, Nat.reduceSub, Nat.reduceLeDiff, Int.reduceNeg, Int.reduceLT, Int.reduceLE, Int.reduceEq, Int.reduceAdd, Int.reduceToNat, s0, s1, hget, hset, c2, c3])
      rw [c2] at hh
      exact .inl hh
  · have e : partsS m = x :: partsS (m / 128) := by rw [partsS.eq_def m, dif_neg c, hx]; rfl
    have fin : bs ++ [x] ++ partsS (m / 128) = partsS n := by rw [← hp, e]; simp
    by_cases c1 : m / 128 = 0
    · have c2 : ¬ (x : Int) < 64 := by omega
      ((try first | refine walk_aw env_ok (none) ?_ | refine walk_aw envR_ok (none) ?_); try simp -implicitDefEqProofs (maxSteps := 1000000) only [go_sem, ↓reduceIte, reduceCtorEq, Nat.reduceLT, Nat.reduceEqDiff, Nat.reduceBEq, Nat.reduceAdd, Nat.reduceMul, Nat.reduceSub, Nat.reduceLeDiff, Int.reduceNeg, Int.reduceLT, Int.reduceLE, Int.reduceEq, Int.reduceAdd, Int.reduceToNat, s0, s1, hget, hset, c1, c2])
      rw [c1] at fin
      exact ⟨⟨bs ++ [x], 0, rfl, by omega, fin⟩, by omega⟩
    · by_cases c2 : m / 128 = -1
      · have c3 : ¬ (x : Int) ≥ 64 := by omega
        ((try first | refine walk_aw env_ok (none) ?_ | refine walk_aw envR_ok (none) ?_); try simp -implicitDefEqProofs (maxSteps := 1000000) only [go_sem, ↓reduceIte, reduceCtorEq, Nat.reduceLT, Nat.reduceEqDiff, Nat.reduceBEq, Nat.reduceAdd, Nat.reduceMul, Nat.reduceSub, Nat.reduceLeDiff, Int.reduceNeg, Int.reduceLT, Int.reduceLE, Int.reduceEq, Int.reduceAdd, Int.reduceToNat, s0, s1, hget, hset, c2, c3])
        rw [c2] at fin
        exact ⟨⟨bs ++ [x], -1, rfl, by omega, fin⟩, by omega⟩
      · ((try first | refine walk_aw env_ok (none) ?_ | refine walk_aw envR_ok (none) ?_); try simp -implicitDefEqProofs (maxSteps := 1000000) only [go_sem, ↓reduceIte, reduceCtorEq, Nat.reduceLT, Nat.reduceEqDiff, Nat.reduceBEq, Nat.reduceAdd, Nat.reduceMul, Nat.reduceSub, Nat.reduceLeDiff, Int.reduceNeg, Int.reduceLT, Int.reduceLE, Int.reduceEq, Int.reduceAdd, Int.reduceToNat, s0, s1, hget, hset, c1, c2])
        exact ⟨⟨bs ++ [x], m / 128, rfl, by omega, fin⟩, by omega⟩

theorem puts_spec {b : List UInt8} {k : Nat} {n : Int} {H : Heap} {Q : A → Heap → Prop} (hb : b.length < 140737488355000) (hk : k ≤ b.length) (hn : -9223372036854775808 ≤ n ∧ n < 9223372036854775808)
    (h : ∀ z : Int, Q (.sl (bA (b ++ enc (partsS n).dropLast ++ [UInt8.ofNat ((partsS n).getLastD 0)])) (some k) ()) (H ++ [.cells [.int .i64 z]])) :
    AC Try.prog 139 [.sl (bA b) (some k) (), .fn (.func 145) [] [.ptr (some (H.length, 0))]] (H ++ [.cells [.int .i64 n]]) Q := by
  refine AC.enter (E := env Try.prog 29 (fun t => if t == 11 || t == 28 then .take else .copy) (fun _ => false)) env_ok Try.func139 rfl rfl rfl (by simp only [List.length_cons, List.length_nil]; exact of_decide_eq_true rfl) ?_
  ((try first | refine walk_aw env_ok (some (fun t => t == 7 || t == 16 || t == 20 || t == 21)) ?_ | refine walk_aw envR_ok (some (fun t => t == 7 || t == 16 || t == 20 || t == 21)) ?_); try simp -implicitDefEqProofs (maxSteps := 1000000) only [go_sem, ↓reduceIte, reduceCtorEq, Nat.reduceLT, Nat.reduceEqDiff, Nat.reduceBEq, Nat.reduceAdd, Nat.reduceMul, Nat.reduceSub, Nat.reduceLeDiff, Int.reduceNeg, Int.reduceLT, Int.reduceLE, Int.reduceEq, Int.reduceAdd, Int.reduceToNat])
  refine AW.gen (fun st => st.σ 2 = .ptr (some (H.length + 1, 0)) ∧ st.σ 5 = .int .i64 b.length ∧ st.σ 9 = .fn (.func 145) [] [.ptr (some (H.length, 0))] ∧ st.H = H ++ [Ob.cells [.int .i64 n], Ob.cells [.sl (bA b) (some k) ()]]) ⟨rfl, rfl, rfl, rfl⟩ ?_
  rintro ⟨σ, H2⟩ ⟨s2, s5, s9, rfl⟩
  simp only at s2 s5 s9
  refine AW.rangeFunc (first := []) (cap := [.ptr (some (H.length, 0))]) env_ok rfl Try.func145 rfl rfl s9 rfl ?_
  intro l r r1 r2 r3 r4 r5
  rw [three]
  have hp10 : (partsS n).length ≤ 10 := partsS_len n hn
  have hK : ∀ m, H ++ [Ob.cells [.int .i64 m], Ob.cells [.sl (bA b) (some k) ()], Ob.loop l r (tmpsOf 29 σ)] =
      (fun bs m => H ++ [Ob.cells [.int .i64 m], Ob.cells [.sl (bA (b ++ enc bs)) (some k) ()], Ob.loop l r (tmpsOf 29 σ)]) [] m := by intro m; simp [enc]
  refine (congrArg (fun G => AC Try.prog 145 [.fn (.yield l) [] [], .ptr (some (H.length, 0))] G _) (hK n)).mpr ?_
  refine signed1_spec (n := n) (K := fun bs m => H ++ [Ob.cells [.int .i64 m], Ob.cells [.sl (bA (b ++ enc bs)) (some k) ()], Ob.loop l r (tmpsOf 29 σ)]) (fun bs m => three_0 ..) (fun bs m m' => three_s0 ..) ?_ hn ?_
  · intro bs m x rest hrest hx
    have hlen : bs.length < 10 := by have := congrArg List.length hrest; simp at this; omega
    refine AY.one (E := envR Try.prog 29 (fun t => if t == 11 || t == 28 then .take else .copy) (fun _ => false)) rfl (i := H.length + 2) (three_2 ..) r1 r3 (by decide) r4 r5 ?_
    have hel : (enc bs).length = bs.length := by simp [enc]
    have hkl : k ≤ (b ++ enc bs).length := by simp; omega
    have hcap : (b ++ enc bs).length ≤ 140737488355327 := by simp [hel]; omega
    have hap : bA (b ++ enc bs) ++ ([V.int IntKind.u8 ((x + 128 : Nat) : Int)] : List A) = bA (b ++ enc (bs ++ [x])) := by
      simp only [bA, enc, List.map_append, List.map_cons, List.map_nil, ← List.append_assoc, byteA]
      rw [show (UInt8.ofNat (x + 128)).toNat = x + 128 by simp; omega]
    ((try first | refine walk_aw env_ok (none) ?_ | refine walk_aw envR_ok (none) ?_); try simp -implicitDefEqProofs (maxSteps := 1000000) only [go_sem, ↓reduceIte, reduceCtorEq, Nat.reduceLT, Nat.reduceEqDiff, Nat.reduceBEq, Nat.reduceAdd, Nat.reduceMul, Nat.reduceSub, Nat.reduceLeDiff, Int.reduceNeg, Int.reduceLT, Int.reduceLE, Int.reduceEq, Int.reduceAdd, Int.reduceToNat, s2, hkl, hcap, or128 x hx, hap, over_normal r1 r2])
    ((try first | refine walk_aw env_ok (none) ?_ | refine walk_aw envR_ok (none) ?_); try simp -implicitDefEqProofs (maxSteps := 1000000) only [go_sem, ↓reduceIte, reduceCtorEq, Nat.reduceLT, Nat.reduceEqDiff, Nat.reduceBEq, Nat.reduceAdd, Nat.reduceMul, Nat.reduceSub, Nat.reduceLeDiff, Int.reduceNeg, Int.reduceLT, Int.reduceLE, Int.reduceEq, Int.reduceAdd, Int.reduceToNat, s2, hkl, hcap, or128 x hx, hap, over_normal r1 r2])
  · intro zz
    refine ⟨H ++ [Ob.cells [.int .i64 zz], Ob.cells [.sl (bA (b ++ enc (partsS n))) (some k) ()]], r, _, .normal, (three ..).symm, by simp, by rw [r1]; simp, r2, ?_⟩
    obtain ⟨P, z, hP⟩ : ∃ P z, partsS n = P ++ [z] := ⟨(partsS n).dropLast, (partsS n).getLast (partsS_ne n), (List.dropLast_concat_getLast (partsS_ne n)).symm⟩
    have hz : z < 128 := partsS_lt n hn z (by rw [hP]; simp)
    rw [hP] at h hp10 ⊢
    have hl10 : P.length < 10 := by simp at hp10; omega
    have hsp : b ++ enc (P ++ [z]) = (b ++ enc P) ++ [UInt8.ofNat (z + 128)] := by simp [enc]
    have hB : (b ++ enc P).length = b.length + P.length := by simp [enc]
    rw [hsp]
    have hQ : Q (.sl (bA (b ++ enc P ++ [UInt8.ofNat z])) (some k) ()) (H ++ [.cells [.int .i64 zz]]) := by simpa using h zz
    generalize b ++ enc P = B at hQ hB ⊢
    obtain ⟨N, hN⟩ : ∃ N, N = B.length := ⟨_, rfl⟩
    have e1 : (B ++ [UInt8.ofNat (z + 128)]).length = N + 1 := by rw [hN]; simp
    have e2 : ((N + 1 : Nat) : Int) > (b.length : Int) := by omega
    have e3 : IntKind.i64.wrap (((N + 1 : Nat) : Int) - 1) = (N : Int) := by rw [IntWalk.i64_in _ (by omega)]; omega
    have e4 : (0 : Int) ≤ (N : Int) := by omega
    have e5 : (N : Int) < ((N + 1 : Nat) : Int) := by omega
    have e6 : (bA (B ++ [UInt8.ofNat (z + 128)]))[N]? = some (.int .u8 ((z + 128 : Nat) : Int)) := by
      rw [hN, bA, List.map_append, List.getElem?_append_right (by simp)]
      simp only [List.length_map, Nat.sub_self, List.map_cons, List.getElem?_cons_zero, byteA]
      rw [show (UInt8.ofNat (z + 128)).toNat = z + 128 by simp; omega]
    have e7 : bitsI .and .u8 ((z + 128 : Nat) : Int) 127 = (z : Int) := by rw [and127b _ (by omega)]; omega
    have e8 : (bA (B ++ [UInt8.ofNat (z + 128)])).set N (.int .u8 (z : Int)) = bA (B ++ [UInt8.ofNat z]) := by
      rw [hN, bA, List.map_append, List.set_append_right _ _ (by simp)]
      simp only [List.length_map, Nat.sub_self, List.map_cons, List.map_nil, List.set_cons_zero, bA, List.map_append, byteA]
      rw [show (UInt8.ofNat z).toNat = z by simp; omega]
    have e9 : k ≤ N := by omega
    ((try first | refine walk_aw env_ok (some (fun t => t == 7 || t == 16 || t == 20 || t == 21)) ?_ | refine walk_aw envR_ok (some (fun t => t == 7 || t == 16 || t == 20 || t == 21)) ?_); try simp -implicitDefEqProofs (maxSteps := 1000000) only [go_sem, ↓reduceIte, reduceCtorEq, Nat.reduceLT, Nat.reduceEqDiff, Nat.reduceBEq, Nat.reduceAdd, Nat.reduceMul, Nat.reduceSub, Nat.reduceLeDiff, Int.reduceNeg, Int.reduceLT, Int.reduceLE, Int.reduceEq, Int.reduceAdd, Int.reduceToNat, s2, s5, e1, e2, e3, e4, e5, e6, e7, e8, e9])
    refine .inr ?_
    rw [show (H ++ [Ob.cells [V.int IntKind.i64 zz], Ob.cells [V.undef ()]]).take (H.length + 1) = H ++ [Ob.cells [V.int IntKind.i64 zz]] by rw [List.take_append, Nat.add_sub_cancel_left, List.take_of_length_le (by omega)]; rfl]
    exact hQ


/-- A number's bytes. -/
def putS (n : Int) : List UInt8 := enc (partsS n).dropLast ++ [UInt8.ofNat ((partsS n).getLastD 0)]

theorem putS_def (n : Int) : putS n = if -64 ≤ n ∧ n < 64 then [UInt8.ofNat (n % 128).toNat] else UInt8.ofNat ((n % 128).toNat + 128) :: putS (n / 128) := by
  unfold putS
  rw [partsS.eq_def n]
  split
  · rfl
  · have h := partsS_ne (n / 128)
    rw [List.dropLast_cons_of_ne_nil h]
    cases hc : partsS (n / 128) with
    | nil => exact absurd hc h
    | cons x l => simp [enc]

theorem PutS_spec {b : List UInt8} {k : Nat} {n : Int} {H : Heap} {Q : A → Heap → Prop} (hb : b.length < 140737488355000) (hk : k ≤ b.length) (hn : -9223372036854775808 ≤ n ∧ n < 9223372036854775808)
    (h : Q (.sl (bA (b ++ putS n)) (some k) ()) H) : AC Try.prog 126 [.sl (bA b) (some k) (), .int .i64 n] H Q := by
  refine AC.enter (E := env Try.prog 9 (fun t => if t == 5 then .take else .copy) (fun _ => false)) env_ok Try.func126 rfl rfl rfl (by simp only [List.length_cons, List.length_nil]; exact of_decide_eq_true rfl) ?_
  ((try first | refine walk_aw env_ok (none) ?_ | refine walk_aw envR_ok (none) ?_); try simp -implicitDefEqProofs (maxSteps := 1000000) only [go_sem, ↓reduceIte, reduceCtorEq, Nat.reduceLT, Nat.reduceEqDiff, Nat.reduceBEq, Nat.reduceAdd, Nat.reduceMul, Nat.reduceSub, Nat.reduceLeDiff, Int.reduceNeg, Int.reduceLT, Int.reduceLE, Int.reduceEq, Int.reduceAdd, Int.reduceToNat])
  refine signed_spec ?_
  ((try first | refine walk_aw env_ok (none) ?_ | refine walk_aw envR_ok (none) ?_); try simp -implicitDefEqProofs (maxSteps := 1000000) only [go_sem, ↓reduceIte, reduceCtorEq, Nat.reduceLT, Nat.reduceEqDiff, Nat.reduceBEq, Nat.reduceAdd, Nat.reduceMul, Nat.reduceSub, Nat.reduceLeDiff, Int.reduceNeg, Int.reduceLT, Int.reduceLE, Int.reduceEq, Int.reduceAdd, Int.reduceToNat])
  refine puts_spec hb hk hn ?_
  intro z
  ((try first | refine walk_aw env_ok (none) ?_ | refine walk_aw envR_ok (none) ?_); try simp -implicitDefEqProofs (maxSteps := 1000000) only [go_sem, ↓reduceIte, reduceCtorEq, Nat.reduceLT, Nat.reduceEqDiff, Nat.reduceBEq, Nat.reduceAdd, Nat.reduceMul, Nat.reduceSub, Nat.reduceLeDiff, Int.reduceNeg, Int.reduceLT, Int.reduceLE, Int.reduceEq, Int.reduceAdd, Int.reduceToNat])
  refine .inr ?_
  simpa [putS] using h
end Go.Ab
end

section
/- Numbers as bytes, the lowest first. -/
namespace Go.Ab
open V Go.Proofs
set_option linter.unusedVariables false

/-- k bytes of a number, the lowest first. -/
def leB : Nat → Nat → List UInt8
  | 0, _ => []
  | k + 1, a => UInt8.ofNat (a % 256) :: leB k (a / 256)
theorem leB_length : ∀ (k a : Nat), (leB k a).length = k := by
  intro k
  induction k with
  | zero => intro a; rfl
  | succ k ih => intro a; simp [leB, ih]
theorem le_leB : ∀ (k a : Nat), a < 256 ^ k → le (leB k a) = a := by
  intro k
  induction k with
  | zero => intro a h; simp at h; simp [leB, le, h]
  | succ k ih =>
    intro a h
    have hd : a / 256 < 256 ^ k := by rw [Nat.div_lt_iff_lt_mul (by omega)]; rw [Nat.pow_succ] at h; exact h
    have hb : (UInt8.ofNat (a % 256)).toNat = a % 256 := by simp
    simp only [leB, le, ih _ hd, hb]
    omega
theorem u8_nat (n : Nat) : IntKind.u8.wrap (n : Int) = ((n % 256 : Nat) : Int) := by rw [IntKind.wrap_u8]; omega
theorem bA_snoc (l : List UInt8) (n : Nat) (h : n < 256) : bA l ++ ([V.int .u8 (n : Int)] : List A) = bA (l ++ [UInt8.ofNat n]) := by
  simp only [bA, List.map_append, List.map_cons, List.map_nil, byteA]
  rw [show (UInt8.ofNat n).toNat = n by simp; omega]
theorem leB_snoc : ∀ (k a : Nat), leB (k + 1) a = leB k a ++ [UInt8.ofNat (a / 256 ^ k % 256)] := by
  intro k
  induction k with
  | zero => intro a; simp [leB]
  | succ k ih =>
    intro a
    rw [leB, ih (a / 256), leB, List.cons_append, Nat.div_div_eq_div_mul, ← Nat.pow_succ']
theorem shr_byte (a i : Nat) (hi : i < 8) : (a : Int).fdiv (2 ^ min (8 * (i : Int)).toNat 64) = ((a / 256 ^ i : Nat) : Int) := by
  rw [show min (8 * (i : Int)).toNat 64 = 8 * i by omega, Int.fdiv_eq_ediv_of_nonneg _ (by exact Int.le_of_lt (Int.pow_pos (by decide))), show (256 : Nat) = 2 ^ 8 from rfl, ← Nat.pow_mul]
  simp
end Go.Ab
end

section
/- Numbers and texts that are put. -/
namespace Go.Ab
open V Go.Proofs
set_option maxHeartbeats 4000000
set_option maxRecDepth 10000
set_option linter.unusedSimpArgs false
set_option linter.unusedVariables false

section
variable {H : Heap} {Q : A → Heap → Prop}
theorem cPut_spec {b : List UInt8} {k n : Nat} {z : Int} (hb : b.length < 140737488355000) (hk : k ≤ b.length) (hn : n < 18446744073709551616)
    (h : Q (.sl (bA (b ++ leB (min (max z 0) 8).toNat n)) (some k) ()) H) : AC Try.prog 79 [.sl (bA b) (some k) (), .int .u64 n, .int .i64 z] H Q := by
  refine AC.enter (E := env Try.prog 24 (fun t => if t == 13 || t == 23 then .take else .copy) (fun _ => false)) env_ok Try.func79 rfl rfl rfl (by simp only [List.length_cons, List.length_nil]; exact of_decide_eq_true rfl) ?_
  ((try first | refine walk_aw env_ok (none) ?_ | refine walk_aw envR_ok (none) ?_); try simp -implicitDefEqProofs (maxSteps := 1000000) only [go_sem, ↓reduceIte, reduceCtorEq, Nat.reduceLT, Nat.reduceEqDiff, Nat.reduceBEq, Nat.reduceAdd, Nat.reduceMul, Nat.reduceSub, Nat.reduceLeDiff, Int.reduceNeg, Int.reduceLT, Int.reduceLE, Int.reduceEq, Int.reduceAdd, Int.reduceToNat])
  refine width_spec ?_
  obtain ⟨w, hw⟩ : ∃ w : Nat, min (max z 0) 8 = (w : Int) := ⟨(min (max z 0) 8).toNat, by omega⟩
  have hw8 : w ≤ 8 := by omega
  rw [hw] at h ⊢
  rw [Int.toNat_natCast] at h
  ((try first | refine walk_aw env_ok (none) ?_ | refine walk_aw envR_ok (none) ?_); try simp -implicitDefEqProofs (maxSteps := 1000000) only [go_sem, ↓reduceIte, reduceCtorEq, Nat.reduceLT, Nat.reduceEqDiff, Nat.reduceBEq, Nat.reduceAdd, Nat.reduceMul, Nat.reduceSub, Nat.reduceLeDiff, Int.reduceNeg, Int.reduceLT, Int.reduceLE, Int.reduceEq, Int.reduceAdd, Int.reduceToNat])
  refine AW.loop (fun st => ∃ i : Nat, i ≤ w ∧ st.σ 9 = .int .i64 w ∧ st.σ 10 = .int .i64 i ∧ st.σ 1 = .int .u64 n ∧ st.σ 0 = .sl (bA (b ++ leB i n)) (some k) () ∧ st.H = H)
    (fun st => match st.σ 10 with | .int _ i => w - i.toNat | _ => 0) ⟨0, by omega, rfl, rfl, rfl, by rw [show b ++ leB 0 n = b by simp [leB]]; rfl, rfl⟩ ?_
  rintro ⟨σ, H2⟩ ⟨i, hi, s9, s10, s1, s0, rfl⟩
  simp only at s9 s10 s1 s0
  by_cases c : i = w
  · subst c
    have c1 : ¬ (i : Int) < (i : Int) := by omega
    ((try first | refine walk_aw env_ok (none) ?_ | refine walk_aw envR_ok (none) ?_); try simp -implicitDefEqProofs (maxSteps := 1000000) only [go_sem, ↓reduceIte, reduceCtorEq, Nat.reduceLT, Nat.reduceEqDiff, Nat.reduceBEq, Nat.reduceAdd, Nat.reduceMul, Nat.reduceSub, Nat.reduceLeDiff, Int.reduceNeg, Int.reduceLT, Int.reduceLE, Int.reduceEq, Int.reduceAdd, Int.reduceToNat, s9, s10, s1, s0, c1])
    exact .inl h
  · have c1 : (i : Int) < (w : Int) := by omega
    have hl : (b ++ leB i n).length = b.length + i := by simp [leB_length]
    have e1 : IntKind.i64.wrap (8 * (i : Int)) = 8 * (i : Int) := IntWalk.i64_in _ (by omega)
    have e2 : IntKind.u64.wrap (8 * (i : Int)) = 8 * (i : Int) := IntWalk.u64_in _ (by omega)
    have e3 : IntKind.i64.wrap ((i : Int) + 1) = ((i + 1 : Nat) : Int) := IntWalk.i64_in _ (by omega)
    have e4 : ¬ 8 * (i : Int) < 0 := by omega
    have hsn := bA_snoc (b ++ leB i n) (n / 256 ^ i % 256) (Nat.mod_lt _ (by omega))
    have hcap : (b ++ leB i n).length + 1 ≤ 140737488355328 := by omega
    have hcap' : (b ++ leB i n).length ≤ 140737488355327 := by omega
    have hkk : k ≤ (b ++ leB i n).length := by omega
    ((try first | refine walk_aw env_ok (none) ?_ | refine walk_aw envR_ok (none) ?_); try simp -implicitDefEqProofs (maxSteps := 1000000) only [go_sem, ↓reduceIte, reduceCtorEq, Nat.reduceLT, Nat.reduceEqDiff, Nat.reduceBEq, Nat.reduceAdd, Nat.reduceMul, Nat.reduceSub, Nat.reduceLeDiff, Int.reduceNeg, Int.reduceLT, Int.reduceLE, Int.reduceEq, Int.reduceAdd, Int.reduceToNat, s9, s10, s1, s0, c1, e1, e2, e3, e4, shr_byte n i (by omega), u8_nat, uni_i1, hsn, hcap, hcap', hkk])
    refine ⟨⟨i + 1, by omega, rfl, by rw [leB_snoc, List.append_assoc]⟩, by omega⟩

theorem rcPut_spec {n : Nat} {z : Int} (hn : n < 18446744073709551616) (h : Q (.sl (bA (leB (min (max z 0) 8).toNat n)) (some 0) ()) H) : AC Try.prog 93 [.int .u64 n, .int .i64 z] H Q := by
  obtain ⟨w, hw⟩ : ∃ w : Nat, min (max z 0) 8 = (w : Int) := ⟨(min (max z 0) 8).toNat, by omega⟩
  have hw8 : w ≤ 8 := by omega
  rw [hw, Int.toNat_natCast] at h
  refine AC.enter (E := env Try.prog 22 (fun t => if t == 13 || t == 21 then .take else .copy) (fun _ => false)) env_ok Try.func93 rfl rfl rfl (by simp only [List.length_cons, List.length_nil]; exact of_decide_eq_true rfl) ?_
  ((try first | refine walk_aw env_ok (none) ?_ | refine walk_aw envR_ok (none) ?_); try simp -implicitDefEqProofs (maxSteps := 1000000) only [go_sem, ↓reduceIte, reduceCtorEq, Nat.reduceLT, Nat.reduceEqDiff, Nat.reduceBEq, Nat.reduceAdd, Nat.reduceMul, Nat.reduceSub, Nat.reduceLeDiff, Int.reduceNeg, Int.reduceLT, Int.reduceLE, Int.reduceEq, Int.reduceAdd, Int.reduceToNat])
  refine AW.loop (fun st => ∃ i : Nat, i ≤ w ∧ st.σ 1 = .int .i64 z ∧ st.σ 6 = .int .i64 i ∧ st.σ 0 = .int .u64 ((n / 256 ^ i : Nat) : Int) ∧ st.σ 5 = .sl (bA (leB i n)) (some 0) () ∧ st.H = H)
    (fun st => match st.σ 6 with | .int _ i => w - i.toNat | _ => 0) ⟨0, by omega, rfl, rfl, by simp; rfl, rfl, rfl⟩ ?_
  rintro ⟨σ, H2⟩ ⟨i, hi, s1, s6, s0, s5, rfl⟩
  simp only at s1 s6 s0 s5
  ((try first | refine walk_aw env_ok (none) ?_ | refine walk_aw envR_ok (none) ?_); try simp -implicitDefEqProofs (maxSteps := 1000000) only [go_sem, ↓reduceIte, reduceCtorEq, Nat.reduceLT, Nat.reduceEqDiff, Nat.reduceBEq, Nat.reduceAdd, Nat.reduceMul, Nat.reduceSub, Nat.reduceLeDiff, Int.reduceNeg, Int.reduceLT, Int.reduceLE, Int.reduceEq, Int.reduceAdd, Int.reduceToNat, s1, s6])
  refine rsize_spec ?_
  rw [hw]
  by_cases c : i = w
  · subst c
    have c1 : ¬ (i : Int) < (i : Int) := by omega
    ((try first | refine walk_aw env_ok (none) ?_ | refine walk_aw envR_ok (none) ?_); try simp -implicitDefEqProofs (maxSteps := 1000000) only [go_sem, ↓reduceIte, reduceCtorEq, Nat.reduceLT, Nat.reduceEqDiff, Nat.reduceBEq, Nat.reduceAdd, Nat.reduceMul, Nat.reduceSub, Nat.reduceLeDiff, Int.reduceNeg, Int.reduceLT, Int.reduceLE, Int.reduceEq, Int.reduceAdd, Int.reduceToNat, s1, s6, s5, c1])
    exact .inl h
  · have c1 : (i : Int) < (w : Int) := by omega
    have hl : (leB i n).length = i := by simp [leB_length]
    have e1 : ((n / 256 ^ i : Nat) : Int).tmod 256 = ((n / 256 ^ i % 256 : Nat) : Int) := by
      generalize n / 256 ^ i = q; rw [Int.tmod_eq_emod_of_nonneg (by omega)]; omega
    have e2 : IntKind.u64.wrap (((n / 256 ^ i : Nat) : Int).tdiv 256) = ((n / 256 ^ (i + 1) : Nat) : Int) := by
      have : n / 256 ^ i ≤ n := Nat.div_le_self _ _
      rw [Nat.pow_succ, ← Nat.div_div_eq_div_mul]
      generalize n / 256 ^ i = q at this ⊢
      rw [Int.tdiv_eq_ediv_of_nonneg (by omega), IntWalk.u64_in _ (by omega)]; omega
    have e3 : IntKind.i64.wrap ((i : Int) + 1) = ((i + 1 : Nat) : Int) := IntWalk.i64_in _ (by omega)
    have hsn := bA_snoc (leB i n) (n / 256 ^ i % 256) (Nat.mod_lt _ (by omega))
    have hm : n / 256 ^ i % 256 % 256 = n / 256 ^ i % 256 := Nat.mod_mod _ _
    have hcap' : (leB i n).length ≤ 140737488355327 := by omega
    ((try first | refine walk_aw env_ok (none) ?_ | refine walk_aw envR_ok (none) ?_); try simp -implicitDefEqProofs (maxSteps := 1000000) only [go_sem, ↓reduceIte, reduceCtorEq, Nat.reduceLT, Nat.reduceEqDiff, Nat.reduceBEq, Nat.reduceAdd, Nat.reduceMul, Nat.reduceSub, Nat.reduceLeDiff, Int.reduceNeg, Int.reduceLT, Int.reduceLE, Int.reduceEq, Int.reduceAdd, Int.reduceToNat, s1, s6, s0, s5, c1, e1, e2, e3, u8_nat, hm, uni_i1, hsn, hcap', Nat.zero_le])
    refine ⟨⟨i + 1, by omega, rfl, rfl, by rw [leB_snoc]⟩, by omega⟩

theorem putU_le {n : Nat} (hn : n < 18446744073709551616) : (putU n).length ≤ 10 := by
  have h1 := parts_len (k := 9) (n := n) (by omega)
  have h2 := List.length_pos_iff.2 (parts7_ne n)
  rw [putU]; simp [enc]; omega
theorem putS_le {n : Int} (hn : -9223372036854775808 ≤ n ∧ n < 9223372036854775808) : (putS n).length ≤ 10 := by
  have h1 := partsS_len n hn
  have h2 := List.length_pos_iff.2 (partsS_ne n)
  rw [putS]; simp [enc]; omega

theorem rPutU_spec {n : Nat} (hn : n < 18446744073709551616) (h : Q (.sl (bA (putU n)) (some 0) ()) H) : AC Try.prog 94 [.int .u64 n] H Q := by
  have hlen := putU_le hn
  refine AC.enter (E := env Try.prog 20 (fun t => if t == 6 || t == 15 then .take else .copy) (fun _ => false)) env_ok Try.func94 rfl rfl rfl (by simp only [List.length_cons, List.length_nil]; exact of_decide_eq_true rfl) ?_
  ((try first | refine walk_aw env_ok (none) ?_ | refine walk_aw envR_ok (none) ?_); try simp -implicitDefEqProofs (maxSteps := 1000000) only [go_sem, ↓reduceIte, reduceCtorEq, Nat.reduceLT, Nat.reduceEqDiff, Nat.reduceBEq, Nat.reduceAdd, Nat.reduceMul, Nat.reduceSub, Nat.reduceLeDiff, Int.reduceNeg, Int.reduceLT, Int.reduceLE, Int.reduceEq, Int.reduceAdd, Int.reduceToNat])
  refine AW.loop (fun st => ∃ (m : Nat) (acc : List UInt8), m < 18446744073709551616 ∧ acc ++ putU m = putU n ∧ st.σ 0 = .int .u64 m ∧ st.σ 3 = .sl (bA acc) (some 0) () ∧ st.H = H)
    (fun st => match st.σ 0 with | .int _ i => i.toNat | _ => 0) ⟨n, [], hn, rfl, rfl, rfl, rfl⟩ ?_
  rintro ⟨σ, H2⟩ ⟨m, acc, hm, hacc, s0, s3, rfl⟩
  simp only at s0 s3
  have hal : acc.length ≤ 10 := by have := congrArg List.length hacc; rw [List.length_append] at this; omega
  have hcap : acc.length ≤ 140737488355327 := by omega
  rw [putU_def m] at hacc
  by_cases c : m < 128
  · have c1 : ¬ (m : Int) ≥ 128 := by omega
    rw [if_pos c] at hacc
    have hsn := bA_snoc acc m (by omega)
    have hm : m % 256 = m := Nat.mod_eq_of_lt (by omega)
    ((try first | refine walk_aw env_ok (none) ?_ | refine walk_aw envR_ok (none) ?_); try simp -implicitDefEqProofs (maxSteps := 1000000) only [go_sem, ↓reduceIte, reduceCtorEq, Nat.reduceLT, Nat.reduceEqDiff, Nat.reduceBEq, Nat.reduceAdd, Nat.reduceMul, Nat.reduceSub, Nat.reduceLeDiff, Int.reduceNeg, Int.reduceLT, Int.reduceLE, Int.reduceEq, Int.reduceAdd, Int.reduceToNat, s0, s3, c1, u8_nat, hm, uni_i1, hsn, hcap, Nat.zero_le])
    rw [hacc]
    exact .inl h
  · have c1 : (m : Int) ≥ 128 := by omega
    rw [if_neg c] at hacc
    have e1 : (m : Int).tmod 128 = ((m % 128 : Nat) : Int) := by rw [Int.tmod_eq_emod_of_nonneg (by omega)]; omega
    have e2 : IntKind.u64.wrap (((m % 128 : Nat) : Int) + 128) = ((m % 128 + 128 : Nat) : Int) := by rw [IntWalk.u64_in _ (by omega)]; omega
    have e3 : IntKind.u64.wrap ((m : Int).tdiv 128) = ((m / 128 : Nat) : Int) := by rw [Int.tdiv_eq_ediv_of_nonneg (by omega), IntWalk.u64_in _ (by omega)]; omega
    have hm2 : (m % 128 + 128) % 256 = m % 128 + 128 := Nat.mod_eq_of_lt (by omega)
    have hsn := bA_snoc acc (m % 128 + 128) (by omega)
    ((try first | refine walk_aw env_ok (none) ?_ | refine walk_aw envR_ok (none) ?_); try simp -implicitDefEqProofs (maxSteps := 1000000) only [go_sem, ↓reduceIte, reduceCtorEq, Nat.reduceLT, Nat.reduceEqDiff, Nat.reduceBEq, Nat.reduceAdd, Nat.reduceMul, Nat.reduceSub, Nat.reduceLeDiff, Int.reduceNeg, Int.reduceLT, Int.reduceLE, Int.reduceEq, Int.reduceAdd, Int.reduceToNat, s0, s3, c1, e1, e2, e3, u8_nat, hm2, uni_i1, hsn, hcap, Nat.zero_le])
    exact ⟨⟨m / 128, acc ++ [UInt8.ofNat (m % 128 + 128)], by omega, by rw [← hacc]; simp, rfl, rfl⟩, by omega⟩

theorem rPutS_spec {n : Int} (hn : -9223372036854775808 ≤ n ∧ n < 9223372036854775808) (h : Q (.sl (bA (putS n)) (some 0) ()) H) : AC Try.prog 95 [.int .i64 n] H Q := by
  have hlen := putS_le hn
  refine AC.enter (E := env Try.prog 36 (fun t => if t == 17 || t == 31 then .take else .copy) (fun _ => false)) env_ok Try.func95 rfl rfl rfl (by simp only [List.length_cons, List.length_nil]; exact of_decide_eq_true rfl) ?_
  ((try first | refine walk_aw env_ok (none) ?_ | refine walk_aw envR_ok (none) ?_); try simp -implicitDefEqProofs (maxSteps := 1000000) only [go_sem, ↓reduceIte, reduceCtorEq, Nat.reduceLT, Nat.reduceEqDiff, Nat.reduceBEq, Nat.reduceAdd, Nat.reduceMul, Nat.reduceSub, Nat.reduceLeDiff, Int.reduceNeg, Int.reduceLT, Int.reduceLE, Int.reduceEq, Int.reduceAdd, Int.reduceToNat])
  refine AW.loop (fun st => ∃ (m : Int) (acc : List UInt8), (-9223372036854775808 ≤ m ∧ m < 9223372036854775808) ∧ acc ++ putS m = putS n ∧ st.σ 0 = .int .i64 m ∧ st.σ 3 = .sl (bA acc) (some 0) () ∧ st.H = H)
    (fun st => match st.σ 0 with | .int _ i => i.natAbs | _ => 0) ⟨n, [], hn, rfl, rfl, rfl, rfl⟩ ?_
  rintro ⟨σ, H2⟩ ⟨m, acc, hm, hacc, s0, s3, rfl⟩
  simp only at s0 s3
  have hal : acc.length ≤ 10 := by have := congrArg List.length hacc; rw [List.length_append] at this; omega
  have hcap : acc.length ≤ 140737488355327 := by omega
  rw [putS_def m] at hacc
  obtain ⟨x, hx⟩ : ∃ x : Nat, m % 128 = (x : Int) := ⟨(m % 128).toNat, by omega⟩
  have hx1 : x < 128 := by omega
  rw [hx, Int.toNat_natCast] at hacc
  by_cases c : -64 ≤ m ∧ m < 64
  · have c1 : ¬ m < -64 := by omega
    have c2 : ¬ m > 63 := by omega
    rw [if_pos c] at hacc
    have hsn := bA_snoc acc x (by omega)
    have hm1 : x % 256 = x := Nat.mod_eq_of_lt (by omega)
    by_cases c3 : m < 0
    · have e1 : IntKind.i64.wrap (m + 128) = (x : Int) := by rw [IntWalk.i64_in _ (by omega)]; omega
      ((try first | refine walk_aw env_ok (none) ?_ | refine walk_aw envR_ok (none) ?_); try simp -implicitDefEqProofs (maxSteps := 1000000) only [go_sem, ↓reduceIte, reduceCtorEq, Nat.reduceLT, Nat.reduceEqDiff, Nat.reduceBEq, Nat.reduceAdd, Nat.reduceMul, Nat.reduceSub, Nat.reduceLeDiff, Int.reduceNeg, Int.reduceLT, Int.reduceLE, Int.reduceEq, Int.reduceAdd, Int.reduceToNat, s0, s3, c1, c2, c3, e1, u8_nat, hm1, uni_i1, hsn, hcap, Nat.zero_le])
      rw [hacc]
      exact .inl h
    · have e1 : m = (x : Int) := by omega
      subst e1
      ((try first | refine walk_aw env_ok (none) ?_ | refine walk_aw envR_ok (none) ?_); try simp -implicitDefEqProofs (maxSteps := 1000000) only [go_sem, ↓reduceIte, reduceCtorEq, Nat.reduceLT, Nat.reduceEqDiff, Nat.reduceBEq, Nat.reduceAdd, Nat.reduceMul, Nat.reduceSub, Nat.reduceLeDiff, Int.reduceNeg, Int.reduceLT, Int.reduceLE, Int.reduceEq, Int.reduceAdd, Int.reduceToNat, s0, s3, c1, c2, c3, u8_nat, hm1, uni_i1, hsn, hcap, Nat.zero_le])
      rw [hacc]
      exact .inl h
  · rw [if_neg c] at hacc
    have e2 : IntKind.i64.wrap ((x : Int) + 128) = ((x + 128 : Nat) : Int) := by rw [IntWalk.i64_in _ (by omega)]; omega
    have e3 : IntKind.i64.wrap (m - (x : Int)) = m - (x : Int) := IntWalk.i64_in _ (by omega)
    have e4 : IntKind.i64.wrap ((m - (x : Int)).tdiv 128) = m / 128 := by
      have : (m - (x : Int)).tdiv 128 = m / 128 := by
        obtain ⟨q, hq⟩ : ∃ q, m - (x : Int) = 128 * q := ⟨m / 128, by omega⟩
        rw [hq, Int.mul_tdiv_cancel_left _ (by decide)]; omega
      rw [this, IntWalk.i64_in _ (by omega)]
    have hm2 : (x + 128) % 256 = x + 128 := Nat.mod_eq_of_lt (by omega)
    have hsn := bA_snoc acc (x + 128) (by omega)
    have key : ∀ d : Int, (d = m.tmod 128 ∧ ((d < 0 ∧ IntKind.i64.wrap (d + 128) = (x : Int)) ∨ (¬ d < 0 ∧ d = (x : Int)))) → True := fun _ _ => trivial
    have hd : m.tmod 128 = (x : Int) ∨ (m.tmod 128 < 0 ∧ m.tmod 128 + 128 = (x : Int)) := by
      rcases Int.lt_or_le m 0 with h0 | h0
      · have := Int.tmod_eq_emod (a := m) (b := 128)
        rw [this]
        split
        · left; omega
        · right; constructor <;> simp <;> omega
      · left; rw [Int.tmod_eq_emod_of_nonneg h0, hx]
    have go1 : m < -64 ∨ ¬ m < -64 ∧ m > 63 := by omega
    rcases hd with hd | ⟨hd1, hd2⟩
    · have hd3 : ¬ (x : Int) < 0 := by omega
      rcases go1 with g | ⟨g1, g2⟩
      · ((try first | refine walk_aw env_ok (none) ?_ | refine walk_aw envR_ok (none) ?_); try simp -implicitDefEqProofs (maxSteps := 1000000) only [go_sem, ↓reduceIte, reduceCtorEq, Nat.reduceLT, Nat.reduceEqDiff, Nat.reduceBEq, Nat.reduceAdd, Nat.reduceMul, Nat.reduceSub, Nat.reduceLeDiff, Int.reduceNeg, Int.reduceLT, Int.reduceLE, Int.reduceEq, Int.reduceAdd, Int.reduceToNat, s0, s3, g, hd, hd3, e2, e3, e4, u8_nat, hm2, uni_i1, hsn, hcap, Nat.zero_le])
        exact ⟨⟨m / 128, acc ++ [UInt8.ofNat (x + 128)], by omega, by rw [← hacc]; simp, rfl, rfl⟩, by omega⟩
      · ((try first | refine walk_aw env_ok (none) ?_ | refine walk_aw envR_ok (none) ?_); try simp -implicitDefEqProofs (maxSteps := 1000000) only [go_sem, ↓reduceIte, reduceCtorEq, Nat.reduceLT, Nat.reduceEqDiff, Nat.reduceBEq, Nat.reduceAdd, Nat.reduceMul, Nat.reduceSub, Nat.reduceLeDiff, Int.reduceNeg, Int.reduceLT, Int.reduceLE, Int.reduceEq, Int.reduceAdd, Int.reduceToNat, s0, s3, g1, g2, hd, hd3, e2, e3, e4, u8_nat, hm2, uni_i1, hsn, hcap, Nat.zero_le])
        exact ⟨⟨m / 128, acc ++ [UInt8.ofNat (x + 128)], by omega, by rw [← hacc]; simp, rfl, rfl⟩, by omega⟩
    · have hd3 : IntKind.i64.wrap (m.tmod 128 + 128) = (x : Int) := by rw [hd2, IntWalk.i64_in _ (by omega)]
      rcases go1 with g | ⟨g1, g2⟩
      · ((try first | refine walk_aw env_ok (none) ?_ | refine walk_aw envR_ok (none) ?_); try simp -implicitDefEqProofs (maxSteps := 1000000) only [go_sem, ↓reduceIte, reduceCtorEq, Nat.reduceLT, Nat.reduceEqDiff, Nat.reduceBEq, Nat.reduceAdd, Nat.reduceMul, Nat.reduceSub, Nat.reduceLeDiff, Int.reduceNeg, Int.reduceLT, Int.reduceLE, Int.reduceEq, Int.reduceAdd, Int.reduceToNat, s0, s3, g, hd1, hd3, e2, e3, e4, u8_nat, hm2, uni_i1, hsn, hcap, Nat.zero_le])
        exact ⟨⟨m / 128, acc ++ [UInt8.ofNat (x + 128)], by omega, by rw [← hacc]; simp, rfl, rfl⟩, by omega⟩
      · ((try first | refine walk_aw env_ok (none) ?_ | refine walk_aw envR_ok (none) ?_); try simp -implicitDefEqProofs (maxSteps := 1000000) only [go_sem, ↓reduceIte, reduceCtorEq, Nat.reduceLT, Nat.reduceEqDiff, Nat.reduceBEq, Nat.reduceAdd, Nat.reduceMul, Nat.reduceSub, Nat.reduceLeDiff, Int.reduceNeg, Int.reduceLT, Int.reduceLE, Int.reduceEq, Int.reduceAdd, Int.reduceToNat, s0, s3, g1, g2, hd1, hd3, e2, e3, e4, u8_nat, hm2, uni_i1, hsn, hcap, Nat.zero_le])
        exact ⟨⟨m / 128, acc ++ [UInt8.ofNat (x + 128)], by omega, by rw [← hacc]; simp, rfl, rfl⟩, by omega⟩
end
end Go.Ab
end
