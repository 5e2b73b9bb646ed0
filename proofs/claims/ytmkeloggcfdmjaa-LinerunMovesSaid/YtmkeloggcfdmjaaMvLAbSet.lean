/- Abstract values and rules for them, proved sound over the model. -/
import Derived.Test.YtmkeloggcfdmjaaMvLAbTy
import Derived.Test.YtmkeloggcfdmjaaMvLAbChain
import Derived.KernelRfl
set_option linter.all false
set_option linter.unusedSimpArgs false
set_option linter.unusedVariables false
set_option linter.unnecessarySimpa false
section
/- The words by which a state is stepped on: one set. -/
namespace Go.Ab
open V

theorem beqTT : (true == true) = true := rfl
theorem beqTF : (true == false) = false := rfl
theorem beqFT : (false == true) = false := rfl
theorem beqFF : (false == false) = true := rfl

attribute [go_sem] awl wantedA stepA opA put frzA use copyOf ev upd st0 env ofConst ofConst1 thenQ blockQ pureA binA intOp cmpI shiftI strOp unA convA fieldOf fieldAddrA fieldA
  indexAddrA indexA sliceA boundA maxOk lenA minmaxA mmL mm2 okv pickA eqRes dOf loadA storeA boxA allocA partA TyD.agg flagless flaglessL lv leave leave1 lv1
  CallA After useL resL tup1 retQ buildA fillA placeA partsOk putRange buildSliceA elemsA appendA appOk isSrc isU8 extractA makeSliceA solid V.cells V.low lowL V.strip stripL V.share shareL mapRange
  elemsQ fillQ aqs Yield dstOk putD quietA byteOfA
theorem Uni_nil {δ : Type} (n : Nat) : Uni n ([] : List (V δ)) = true := rfl
theorem natLit (n : Nat) : (Nat.cast (no_index (OfNat.ofNat n)) : Int) = OfNat.ofNat n := rfl
/-- '==' on what is no aggregate. -/
def eqB (T : TypeId → Option Ty) (t : TypeId) (x y : A) : Option Bool :=
  match dOf T t, x, y with
  | .int k, .int k' a, .int k'' b => if k' = k ∧ k'' = k then some (decide (a = b)) else none
  | .bool, .bool a, .bool b => some (a == b)
  | .str, .str a, .str b => some (decide (a = b))
  | .ptr _, .ptr none, .ptr q => some q.isNone
  | .ptr _, .ptr (some _), .ptr none => some false
  | .map _ _, .mp none, .mp q => some q.isNone
  | .map _ _, .mp (some _), .mp none => some false
  | .fn, .nilFn, .nilFn => some true
  | .fn, .nilFn, .fn .. => some false
  | .fn, .fn .., .nilFn => some false
  | _, _, _ => none
theorem eqA_eqB {T : TypeId → Option Ty} {n : Nat} {t : TypeId} {x y : A} (hx : ∀ cs, x ≠ .agg cs) : eqA T (n + 1) t x y = eqB T t x y := by
  unfold eqA eqB
  cases dOf T t <;> cases x <;> first | (exfalso; exact hx _ rfl) | rfl | (cases y <;> rfl) | (rename_i p; cases p <;> first | rfl | (cases y <;> first | rfl | (rename_i q; cases q <;> rfl)))
theorem eqA_bool {T : TypeId → Option Ty} {n : Nat} {t : TypeId} {b : Bool} {y : A} : eqA T (n + 1) t (.bool b) y = eqB T t (.bool b) y := eqA_eqB (by intro _ h; cases h)
theorem eqA_int {T : TypeId → Option Ty} {n : Nat} {t : TypeId} {k : IntKind} {b : Int} {y : A} : eqA T (n + 1) t (.int k b) y = eqB T t (.int k b) y := eqA_eqB (by intro _ h; cases h)
theorem eqA_str {T : TypeId → Option Ty} {n : Nat} {t : TypeId} {b : ByteArray} {y : A} : eqA T (n + 1) t (.str b) y = eqB T t (.str b) y := eqA_eqB (by intro _ h; cases h)
theorem eqA_ptr {T : TypeId → Option Ty} {n : Nat} {t : TypeId} {b : Option (Nat × Nat)} {y : A} : eqA T (n + 1) t (.ptr b) y = eqB T t (.ptr b) y := eqA_eqB (by intro _ h; cases h)
theorem eqA_mp {T : TypeId → Option Ty} {n : Nat} {t : TypeId} {b : Option Nat} {y : A} : eqA T (n + 1) t (.mp b) y = eqB T t (.mp b) y := eqA_eqB (by intro _ h; cases h)
theorem eqA_nilFn {T : TypeId → Option Ty} {n : Nat} {t : TypeId} {y : A} : eqA T (n + 1) t .nilFn y = eqB T t .nilFn y := eqA_eqB (by intro _ h; cases h)
theorem eqA_fn {T : TypeId → Option Ty} {n : Nat} {t : TypeId} {f : Fn} {a b : List A} {y : A} : eqA T (n + 1) t (.fn f a b) y = eqB T t (.fn f a b) y := eqA_eqB (by intro _ h; cases h)
attribute [go_sem] eqB eqA_bool eqA_int eqA_str eqA_ptr eqA_mp eqA_nilFn eqA_fn
/-! what stands behind is left alone -/
theorem awl_app {E : Env} {ops : Array Oper} {m : List Oper} {Q : St → Prop} : ∀ (l : List Oper) (st : St), awl E ops (List.append l m) Q st = awl E ops l (fun st' => awl E ops m Q st') st := by
  intro l
  induction l with
  | nil => intro st; rfl
  | cons o l ih =>
    intro st
    show awl E ops (o :: List.append l m) Q st = _
    simp only [awl]
    cases wantedA ops o st with
    | none => rfl
    | some b =>
      cases b with
      | false => simp only; cases put E o.dst (.undef ()) st with | none => rfl | some s => exact ih s
      | true => simp only [ih]
/-- Always rewritten: so that a congruence always applies. -/
def Dum : Prop := True
theorem dum : Dum = True := eq_true trivial
attribute [go_sem] dum
@[congr] theorem awl_cg {E : Env} {ops : Array Oper} {l : List Oper} {Q : St → Prop} {s t : St} {dm : Prop} (dd : Dum = dm) (h : s = t) : awl E ops l Q s = awl E ops l Q t := by rw [h]
@[congr] theorem AW_cg {E : Env} {c : Code} {Q : X → St → Prop} {s t : St} {dm : Prop} (dd : Dum = dm) (h : s = t) : AW E c Q s = AW E c Q t := by rw [h]
@[congr] theorem aqi_cg {E : Env} {ops : Array Oper} {l : List Nat} {Q : St → Prop} {s t : St} {dm : Prop} (dd : Dum = dm) (h : s = t) : aqi E ops l Q s = aqi E ops l Q t := by rw [h]
@[congr] theorem chk_cg {E : Env} {ops : Array Oper} {l : List (Nat × List Nat × List Nat)} {Q : St → Prop} {s t : St} {dm : Prop} (dd : Dum = dm) (h : s = t) : chk E ops l Q s = chk E ops l Q t := by rw [h]
@[congr] theorem quiet1_cg {E : Env} {ops : Array Oper} {o : Oper} {Q : A → Prop} {s t : St} {dm : Prop} (dd : Dum = dm) (h : s = t) : quiet1 E ops o Q s = quiet1 E ops o Q t := by rw [h]
@[congr] theorem AC_cg {P : Program} {f : FuncId} {x y : List A} {H H' : Heap} {Q : A → Heap → Prop} {dm : Prop} (dd : Dum = dm) (h : x = y) (h' : H = H') : AC P f x H Q = AC P f y H' Q := by rw [h, h']
@[congr] theorem QC_cg {P : Program} {f : FuncId} {x y : List A} {H H' : Heap} {Q : A → Prop} {dm : Prop} (dd : Dum = dm) (h : x = y) (h' : H = H') : QC P f x H Q = QC P f y H' Q := by rw [h, h']
attribute [go_sem] awl_app aqi facts chk quiet1 CallQ same1
attribute [go_sem] List.append_eq natLit Uni_nil Nat.mul_one Nat.one_mul
attribute [go_sem] beqTT beqTF beqFT beqFF Option.map_some Option.map_none Option.getD_some Option.getD_none Option.bind_some Option.bind_none if_true if_false Bool.false_eq_true Bool.true_eq_false
  List.getD_cons_zero List.getD_cons_succ List.getElem?_cons_zero List.getElem?_cons_succ List.map_cons List.map_nil List.drop_zero List.drop_succ_cons List.drop_nil List.take_zero List.take_succ_cons List.take_nil List.length_cons List.length_nil
  List.cons_append List.nil_append List.append_nil List.all_cons List.all_nil List.foldr_cons List.foldr_nil List.set_cons_zero List.set_cons_succ List.getElem?_nil List.getElem?_toArray List.replicate_succ List.replicate_zero
  Bool.and_true Bool.true_and Bool.and_false Bool.false_and Bool.or_true Bool.true_or Bool.or_false Bool.false_or Bool.not_true Bool.not_false beq_self_eq_true cond_true cond_false
  Option.isNone_none Option.isNone_some Option.isSome_none Option.isSome_some and_true true_and decide_true decide_false Nat.add_zero Nat.zero_add eq_self not_true_eq_false not_false_eq_true ne_eq
  Int.toNat_natCast ite_self List.mem_cons exists_eq_left exists_eq_left' Option.some.injEq
end Go.Ab
end
