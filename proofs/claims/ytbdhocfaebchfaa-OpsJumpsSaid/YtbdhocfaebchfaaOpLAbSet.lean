/- Abstract values and rules for them, proved sound over the model. -/
import Derived.Test.YtbdhocfaebchfaaOpLAbTy
import Derived.Test.YtbdhocfaebchfaaOpLAbChain
import Derived.KernelRfl
set_option linter.all false
set_option linter.unusedSimpArgs false
set_option linter.unusedVariables false
set_option linter.unnecessarySimpa false
section
/- The words by which a state is stepped on: one set. -/
namespace Go.Ab
open V
variable [Glob]

theorem beqTT : (true == true) = true := rfl
theorem beqTF : (true == false) = false := rfl
theorem beqFT : (false == true) = false := rfl
theorem beqFF : (false == false) = true := rfl

attribute [go_sem] wantedA stepA opA put frzA use copyOf ev upd st0 env ofConst ofConst1 thenQ blockQ pureA binA intOp cmpI shiftI strOp unA convA fieldOf fieldAddrA fieldA
  indexAddrA indexA sliceA boundA maxOk lenA minmaxA mmL mm2 okv pickA eqRes dOf loadA storeA boxA allocA partA TyD.agg flagless flaglessL lv leave leave1 lv1
  CallA useL resL tup1 retQ buildA fillA placeA partsOk putRange buildSliceA elemsA appendA appOk isSrc isU8 extractA makeSliceA solid V.cells V.low lowL V.strip stripL V.share shareL mapRange
  elemsQ fillQ aqs Yield dstOk putD quietA byteOfA toBytesA winStrA copyA srcA
theorem Uni_nil {δ : Type} (n : Nat) : Uni n ([] : List (V δ)) = true := rfl
theorem natLit (n : Nat) : (Nat.cast (no_index (OfNat.ofNat n)) : Int) = OfNat.ofNat n := rfl
/-- '==' on what is no aggregate. -/
def eqB (T : TypeId → Option Ty) (t : TypeId) (x y : A) : Option Bool :=
  match dOf T t, x, y with
  | .int k, .int k' a, .int k'' b => if k' = k ∧ k'' = k then some (decide (a = b)) else none
  | .bool, .bool a, .bool b => some (a == b)
  | .str, .str a, .str b => some (decide (a = b))
  | .ptr _, .ptr none, .ptr q => some q.isNone
  | .ptr _, .ptr (some _), .ptr none => some false
  | .map _ _, .mp none, .mp q => some q.isNone
  | .map _ _, .mp (some _), .mp none => some false
  | .fn, .nilFn, .nilFn => some true
  | .fn, .nilFn, .fn .. => some false
  | .fn, .fn .., .nilFn => some false
  | _, _, _ => none
theorem eqA_eqB {T : TypeId → Option Ty} {n : Nat} {t : TypeId} {x y : A} (hx : ∀ cs, x ≠ .agg cs) : eqA T (n + 1) t x y = eqB T t x y := by
  unfold eqA eqB
  cases dOf T t <;> cases x <;> first | (exfalso; exact hx _ rfl) | rfl | (cases y <;> rfl) | (rename_i p; cases p <;> first | rfl | (cases y <;> first | rfl | (rename_i q; cases q <;> rfl)))
theorem eqA_bool {T : TypeId → Option Ty} {n : Nat} {t : TypeId} {b : Bool} {y : A} : eqA T (n + 1) t (.bool b) y = eqB T t (.bool b) y := eqA_eqB (by intro _ h; cases h)
theorem eqA_int {T : TypeId → Option Ty} {n : Nat} {t : TypeId} {k : IntKind} {b : Int} {y : A} : eqA T (n + 1) t (.int k b) y = eqB T t (.int k b) y := eqA_eqB (by intro _ h; cases h)
theorem eqA_str {T : TypeId → Option Ty} {n : Nat} {t : TypeId} {b : ByteArray} {y : A} : eqA T (n + 1) t (.str b) y = eqB T t (.str b) y := eqA_eqB (by intro _ h; cases h)
theorem eqA_ptr {T : TypeId → Option Ty} {n : Nat} {t : TypeId} {b : Option (Nat × Nat)} {y : A} : eqA T (n + 1) t (.ptr b) y = eqB T t (.ptr b) y := eqA_eqB (by intro _ h; cases h)
theorem eqA_mp {T : TypeId → Option Ty} {n : Nat} {t : TypeId} {b : Option Nat} {y : A} : eqA T (n + 1) t (.mp b) y = eqB T t (.mp b) y := eqA_eqB (by intro _ h; cases h)
theorem eqA_nilFn {T : TypeId → Option Ty} {n : Nat} {t : TypeId} {y : A} : eqA T (n + 1) t .nilFn y = eqB T t .nilFn y := eqA_eqB (by intro _ h; cases h)
theorem eqA_fn {T : TypeId → Option Ty} {n : Nat} {t : TypeId} {f : Fn} {a b : List A} {y : A} : eqA T (n + 1) t (.fn f a b) y = eqB T t (.fn f a b) y := eqA_eqB (by intro _ h; cases h)
attribute [go_sem] eqB eqA_bool eqA_int eqA_str eqA_ptr eqA_mp eqA_nilFn eqA_fn
/-! what stands behind is left alone -/
theorem awl_app {E : Env} {ops : Array Oper} {m : List Oper} {Q : St → Prop} : ∀ (l : List Oper) (st : St), awl E ops (List.append l m) Q st = awl E ops l (fun st' => awl E ops m Q st') st := by
  intro l
  induction l with
  | nil => intro st; rfl
  | cons o l ih =>
    intro st
    show awl E ops (o :: List.append l m) Q st = _
    simp only [awl]
    cases wantedA ops o st with
    | none => rfl
    | some b =>
      cases b with
      | false => simp only; cases put E o.dst (.undef ()) st with | none => rfl | some s => exact ih s
      | true => simp only [ih]
/-- Always rewritten: so that a congruence always applies. -/
def Dum : Prop := True
theorem dum : Dum = True := eq_true trivial
attribute [go_sem] dum
/-- A wrapper that is taken off by a rewriting that is no reduction. -/
def Idw {α : Type} (a : α) : α := a
omit [Glob] in
theorem Idw_eq {α : Type} (a : α) : Idw a = a := of_eq_true (eq_true (Eq.refl a))
attribute [go_sem] Idw_eq
/-! what stands behind is left alone: until the operation itself is told -/
def Hold (p : Prop) : Prop := p
def HoldF {α : Type} (K : α → Prop) : α → Prop := K
def wantK (w : Option Bool) (p q : Prop) : Prop := match w with | some true => p | some false => q | none => False
def optK (o : Option St) (K : St → Prop) : Prop := match o with | some s => K s | none => False
def opK (E : Env) (o : Oper) (st : St) (K : St → Prop) : Prop :=
  match o.op with
  | .call { callee := .value f, args, argTypes := _ } => CallA E o.dst f args.toList st K
  | _ => optK (stepA E o st) (HoldF K)
section
omit [Glob]
@[congr] theorem Hold_cg {p : Prop} {dm : Prop} (dd : Dum = dm) : Hold p = Hold p := rfl
@[congr] theorem HoldF_cg {α : Type} {K : α → Prop} {dm : Prop} (dd : Dum = dm) : HoldF K = HoldF K := rfl
theorem wantK_t {p q : Prop} : wantK (some true) (Hold p) q = p := rfl
theorem wantK_f {p q : Prop} : wantK (some false) p (Hold q) = q := rfl
theorem wantK_n {p q : Prop} : wantK none p q = False := rfl
theorem optK_s {s : St} {K : St → Prop} : optK (some s) (HoldF K) = K s := rfl
theorem optK_n {K : St → Prop} : optK none K = False := rfl
end
theorem awl_nil {E : Env} {ops : Array Oper} {Q : St → Prop} {st : St} : awl E ops [] Q st = Q st := rfl
theorem awl_cons {E : Env} {ops : Array Oper} {o : Oper} {l : List Oper} {Q : St → Prop} {st : St} :
    awl E ops (o :: l) Q st = wantK (wantedA ops o st) (Hold (opK E o st (fun st' => awl E ops l Q st'))) (Hold (optK (put E o.dst (.undef ()) st) (HoldF (fun st' => awl E ops l Q st')))) := by
  rw [awl]
  cases wantedA ops o st with
  | none => rfl
  | some b =>
    cases b with
    | false => rfl
    | true =>
      simp only [wantK, Hold, HoldF, opK]
      cases hop : o.op <;> first | rfl | (rename_i c; obtain ⟨cal, as, ts⟩ := c; cases cal <;> rfl)
@[congr] theorem opK_cg {E : Env} {o : Oper} {st : St} {K : St → Prop} {dm : Prop} (dd : Dum = dm) : opK E o st K = opK E o st K := rfl
@[congr] theorem CallA_cg {E : Env} {dst : Option Tmp} {f : Operand} {as : List Operand} {s t : St} {K : St → Prop} {dm : Prop} (dd : Dum = dm) : CallA E dst f as s K = CallA E dst f as s K := rfl
@[congr] theorem After_cg {E : Env} {dst : Option Tmp} {K : St → Prop} {σ σ' : Nat → A} {v v' : A} {H H' : Heap} {dm : Prop} (dd : Dum = dm) (h1 : Idw σ = σ') (h2 : Idw v = v') (h3 : Idw H = H') : After E dst K σ v H = After E dst K σ' v' H' := by
  rw [Idw_eq] at h1 h2 h3; rw [h1, h2, h3]
theorem After_eq {E : Env} {dst : Option Tmp} {K : St → Prop} {σ : Nat → A} {v : A} {H : Heap} : After E dst K σ v H = optK (put E dst (frzA E dst v) ⟨σ, H⟩) (HoldF K) := rfl
section
omit [Glob]
@[congr] theorem thenQ_cg {K : St → Prop} {Q : X → St → Prop} {x : X} {s t : St} {dm : Prop} (dd : Dum = dm) (h : Idw s = t) : thenQ K Q x s = thenQ K Q x t := by rw [Idw_eq] at h; rw [h]
@[congr] theorem blockQ_cg {id : Nat} {Q : X → St → Prop} {x : X} {s t : St} {dm : Prop} (dd : Dum = dm) (h : Idw s = t) : blockQ id Q x s = blockQ id Q x t := by rw [Idw_eq] at h; rw [h]
end
attribute [go_sem] wantK_t wantK_f wantK_n optK_s optK_n awl_nil awl_cons opK After_eq
@[congr] theorem awl_cg {E : Env} {ops : Array Oper} {l : List Oper} {Q : St → Prop} {s t : St} {dm : Prop} (dd : Dum = dm) (h : Idw s = t) : awl E ops l Q s = awl E ops l Q t := by rw [Idw_eq] at h; rw [h]
@[congr] theorem AW_cg {E : Env} {c : Code} {Q : X → St → Prop} {s t : St} {dm : Prop} (dd : Dum = dm) (h : Idw s = t) : AW E c Q s = AW E c Q t := by rw [Idw_eq] at h; rw [h]
@[congr] theorem aqi_cg {E : Env} {ops : Array Oper} {l : List Nat} {Q : St → Prop} {s t : St} {dm : Prop} (dd : Dum = dm) (h : Idw s = t) : aqi E ops l Q s = aqi E ops l Q t := by rw [Idw_eq] at h; rw [h]
@[congr] theorem chk_cg {E : Env} {ops : Array Oper} {l : List (Nat × List Nat × List Nat)} {Q : St → Prop} {s t : St} {dm : Prop} (dd : Dum = dm) (h : Idw s = t) : chk E ops l Q s = chk E ops l Q t := by rw [Idw_eq] at h; rw [h]
@[congr] theorem quiet1_cg {E : Env} {ops : Array Oper} {o : Oper} {Q : A → Prop} {s t : St} {dm : Prop} (dd : Dum = dm) (h : Idw s = t) : quiet1 E ops o Q s = quiet1 E ops o Q t := by rw [Idw_eq] at h; rw [h]
@[congr] theorem AC_cg {P : Program} {f : FuncId} {x y : List A} {H H' : Heap} {Q : A → Heap → Prop} {dm : Prop} (dd : Dum = dm) (h : Idw x = y) (h' : Idw H = H') : AC P f x H Q = AC P f y H' Q := by rw [Idw_eq] at h h'; rw [h, h']
@[congr] theorem QC_cg {P : Program} {f : FuncId} {x y : List A} {H H' : Heap} {Q : A → Prop} {dm : Prop} (dd : Dum = dm) (h : Idw x = y) (h' : Idw H = H') : QC P f x H Q = QC P f y H' Q := by rw [Idw_eq] at h h'; rw [h, h']
/-! the same for quiet operations -/
def valK (x : Option A) (K : A → Prop) : Prop := match x with | some v => K v | none => False
def qopK (E : Env) (o : Oper) (st : St) (K : A → Prop) : Prop :=
  match o.op with
  | .call { callee := .value f, args, argTypes := _ } => CallQ E f args.toList st fun r => K (frzA E o.dst r)
  | op => valK (quietA E op (ev st) st.H) (HoldF fun r => K (frzA E o.dst r))
def getK (o : Option Oper) (K : Oper → Prop) : Prop := match o with | some o => K o | none => False
section
omit [Glob]
theorem valK_s {v : A} {K : A → Prop} : valK (some v) (HoldF K) = K v := rfl
theorem valK_n {K : A → Prop} : valK none K = False := rfl
theorem getK_s {o : Oper} {K : Oper → Prop} : getK (some o) (HoldF K) = K o := rfl
end
@[congr] theorem qopK_cg {E : Env} {o : Oper} {st : St} {K : A → Prop} {dm : Prop} (dd : Dum = dm) : qopK E o st K = qopK E o st K := rfl
@[congr] theorem CallQ_cg {E : Env} {f : Operand} {as : List Operand} {s : St} {K : A → Prop} {dm : Prop} (dd : Dum = dm) : CallQ E f as s K = CallQ E f as s K := rfl
theorem quiet1_eq {E : Env} {ops : Array Oper} {o : Oper} {K : A → Prop} {st : St} : quiet1 E ops o K st = if dstOk E o.dst = true then wantK (wantedA ops o st) (Hold (qopK E o st K)) (Hold (K (.undef ()))) else False := by
  unfold quiet1
  by_cases hd : dstOk E o.dst = true
  · rw [if_pos hd, eq_true hd, true_and]
    cases wantedA ops o st with
    | none => rfl
    | some b =>
      cases b with
      | false => rfl
      | true =>
        simp only [wantK, Hold, HoldF, qopK]
        cases hop : o.op <;> first | rfl | (rename_i c; obtain ⟨cal, as, ts⟩ := c; cases cal <;> rfl)
  · rw [if_neg hd]; exact eq_false fun h => hd h.1
theorem aqi_nil {E : Env} {ops : Array Oper} {K : St → Prop} {st : St} : aqi E ops [] K st = K st := rfl
theorem aqi_cons {E : Env} {ops : Array Oper} {i : Nat} {l : List Nat} {K : St → Prop} {st : St} : aqi E ops (i :: l) K st = getK (ops[i]?) (HoldF fun o => quiet1 E ops o (fun v => aqi E ops l K (putD o.dst v st)) st) := by
  rw [aqi]; cases ops[i]? <;> rfl
theorem chk_nil {E : Env} {ops : Array Oper} {Q : St → Prop} {f : St} : chk E ops [] Q f = Q f := rfl
theorem chk_cons {E : Env} {ops : Array Oper} {c : Nat} {F nw : List Nat} {r : List (Nat × List Nat × List Nat)} {Q : St → Prop} {f : St} :
    chk E ops ((c, F, nw) :: r) Q f = getK (ops[c]?) (HoldF fun o => awl E ops [o] (fun f1 => facts E ops F f1 ∧ aqi E ops nw (fun f2 => chk E ops r Q f2) f1) f) := by
  rw [chk]; cases ops[c]? <;> rfl
theorem facts_nil {E : Env} {ops : Array Oper} {st : St} : facts E ops [] st = True := rfl
theorem facts_cons {E : Env} {ops : Array Oper} {i : Nat} {l : List Nat} {st : St} : facts E ops (i :: l) st = (getK (ops[i]?) (HoldF fun o => quiet1 E ops o (fun v => same1 o.dst v st) st) ∧ facts E ops l st) := by
  rw [facts]; cases ops[i]? <;> rfl
attribute [go_sem] awl_app valK_s valK_n qopK getK_s quiet1_eq aqi_nil aqi_cons chk_nil chk_cons facts_nil facts_cons CallQ same1
attribute [go_sem] List.append_eq natLit Uni_nil Nat.mul_one Nat.one_mul
attribute [go_sem] beqTT beqTF beqFT beqFF Option.map_some Option.map_none Option.getD_some Option.getD_none Option.bind_some Option.bind_none if_true if_false Bool.false_eq_true Bool.true_eq_false
  List.getD_cons_zero List.getD_cons_succ List.getElem?_cons_zero List.getElem?_cons_succ List.map_cons List.map_nil List.drop_zero List.drop_succ_cons List.drop_nil List.take_zero List.take_succ_cons List.take_nil List.length_cons List.length_nil
  List.cons_append List.nil_append List.append_nil List.all_cons List.all_nil List.foldr_cons List.foldr_nil List.set_cons_zero List.set_cons_succ List.getElem?_nil List.getElem?_toArray List.replicate_succ List.replicate_zero
  Bool.and_true Bool.true_and Bool.and_false Bool.false_and Bool.or_true Bool.true_or Bool.or_false Bool.false_or Bool.not_true Bool.not_false beq_self_eq_true cond_true cond_false
  Option.isNone_none Option.isNone_some Option.isSome_none Option.isSome_some and_true true_and decide_true decide_false Nat.add_zero Nat.zero_add eq_self not_true_eq_false not_false_eq_true ne_eq
  Int.toNat_natCast ite_self List.mem_cons exists_eq_left exists_eq_left' Option.some.injEq
end Go.Ab
end
