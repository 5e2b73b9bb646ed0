/- Abstract values and rules for them, proved sound over the model. -/
import Derived.Test.YtbdhocfaebchfaaOpLAbTy
import Derived.Orders
set_option linter.all false
set_option linter.unusedSimpArgs false
set_option linter.unusedVariables false
set_option linter.unnecessarySimpa false
section
/- Statements whose order is open. -/
namespace Go.Ab
open V
variable [Glob]
set_option linter.unusedSimpArgs false
set_option linter.unusedVariables false
set_option linter.unusedSectionVars false

/-- The elements of a slice, the fields of an aggregate, by values alone. -/
def elemsQ (size : Nat) (e : Operand → A) : List A → List (Nat × Operand) → Option (List A)
  | xs, [] => some xs
  | xs, (i, x) :: rest => if (e x).flagless = true ∧ (e x).cells.length = size ∧ i < xs.length ∧ (e x).cells.all solid = true then elemsQ size e (xs.set i (e x)) rest else none
def fillQ (place : Nat → Option (Nat × Nat)) (e : Operand → A) : List A → List (Nat × Operand) → Option (List A)
  | cs, [] => some cs
  | cs, (i, x) :: rest =>
    match place i with
    | some (o, n) => if (e x).flagless = true ∧ (e x).cells.length = n ∧ o + n ≤ cs.length ∧ (e x).cells.all solid = true then fillQ place e (putRange cs o (e x).cells) rest else none
    | none => none

/-- An operation that touches nothing: its value. -/
def quietA (E : Env) (o : Op) (e : Operand → A) (H : Heap) : Option A :=
  match o with
  | .move x => okv (e x)
  | .assign x => okv (e x)
  | .load t x =>
    (match E.T t with
     | none => none
     | some u =>
       match e x with
       | .rd cs () => (partA u cs 0).bind okv
       | .ptr (some p) => (match H[p.1]? with
         | some (.cells cs) => (partA u cs p.2).bind okv
         | _ => none)
       | _ => none)
  | .buildSlice t len ps =>
    (match dOf E.T t with
     | .sl el => (match E.T el with
       | some u => if 0 < u.size ∧ len * u.size ≤ 16777216 ∧ u.zero.cells.length = u.size ∧ u.zero.cells.all solid = true then
           (elemsQ u.size e (List.replicate len u.zero) ps.toList).map fun r => .sl r (some 0) () else none
       | none => none)
     | _ => none)
  | .build t ps =>
    (match E.T t with
     | some u => if u.d.agg = true ∧ u.zero.cells.all solid = true ∧ partsOk E.T u.d = true then (fillQ (placeA E.T u.d) e u.zero.cells ps.toList).map .agg else none
     | none => none)
  | .convert s d x => (match winStrA E.T s d (e x) H with | some v => some v | none => pureA E (.convert s d x) e)
  | o => pureA E o e

/-- An operation's value, where it changes nothing but its slot. -/
def Yield (E : Env) (o : Oper) (st : St) (v : A) : Prop :=
  match o.op with
  | .call { callee := .value f, args, argTypes := _ } =>
    ∃ F first cap r, ev st f = .fn (.func F) first cap ∧ (first.all flagless && cap.all flagless && (args.toList.map (ev st)).all flagless) = true ∧
      AC E.P F (first ++ args.toList.map (ev st) ++ cap) st.H (fun x H' => x = r ∧ H' = st.H) ∧ v = frzA E o.dst r
  | op => ∃ r, quietA E op (ev st) st.H = some r ∧ v = frzA E o.dst r

def putD (dst : Option Tmp) (v : A) (st : St) : St :=
  match dst with
  | none => st
  | some d => { st with σ := upd st.σ d v }

def dstOk (E : Env) (dst : Option Tmp) : Bool :=
  match dst with
  | none => true
  | some d => decide (d < E.n)

/-- Operations that touch nothing, in the order of the text. -/
def aqs (E : Env) (ops : Array Oper) : List Oper → (St → Prop) → St → Prop
  | [], K, st => K st
  | o :: l, K, st => dstOk E o.dst = true ∧
    match wantedA ops o st with
    | some true => ∃ v, Yield E o st v ∧ aqs E ops l K (putD o.dst v st)
    | some false => aqs E ops l K (putD o.dst (.undef ()) st)
    | none => False

/-! the static side -/
def looks (ops : Array Oper) (o : Oper) : List Tmp := Go.Oper.looksAt ops o

def bindsE (e : Edge) : Bool := Region.binds .any e

/-- The table b tells which operations stand ahead of each one; of the first m the order is open, the others come behind all before them. -/
def okDraw (ops : Array Oper) (b : List Nat) (m : Nat) : Bool :=
  decide (m ≤ ops.size) &&
  (List.range ops.size).all fun i =>
    match ops[i]? with
    | none => false
    | some o =>
      (o.after.toList.all fun e => !bindsE e || decide (e.on < i)) &&
      ((b.getD i 0) == o.after.toList.foldl (fun acc e => if bindsE e then acc ||| (2 ^ e.on ||| b.getD e.on 0) else acc) 0) &&
      (if i < m then
        (List.range m).all fun k =>
          match ops[k]? with
          | none => false
          | some p =>
            match p.dst with
            | none => true
            | some d => (!(looks ops o).contains d && o.dst != some d) || k == i || (if k < i then (b.getD i 0).testBit k else (b.getD k 0).testBit i)
       else (List.range i).all fun k => (b.getD i 0).testBit k) &&
      (match o.op with | .select .. => false | _ => true)

section closure
variable {ops : Array Oper} {b : List Nat} {m : Nat}

theorem foldl_testBit (l : List Edge) (k : Nat) : ∀ acc : Nat, (l.foldl (fun acc e => if bindsE e then acc ||| (2 ^ e.on ||| b.getD e.on 0) else acc) acc).testBit k = true →
    acc.testBit k = true ∨ ∃ e ∈ l, bindsE e = true ∧ (e.on = k ∨ (b.getD e.on 0).testBit k = true) := by
  induction l with
  | nil => intro acc h; exact .inl h
  | cons e l ih =>
    intro acc h
    simp only [List.foldl_cons] at h
    rcases ih _ h with h | ⟨e', he', h1, h2⟩
    · split at h
      · rename_i hb
        simp only [Nat.testBit_or, Bool.or_eq_true, Nat.testBit_two_pow, decide_eq_true_eq] at h
        rcases h with h | h | h
        · exact .inl h
        · exact .inr ⟨e, by simp, hb, .inl h⟩
        · exact .inr ⟨e, by simp, hb, .inr h⟩
      · exact .inl h
    · exact .inr ⟨e', by simp [he'], h1, h2⟩

/-- Listed operations stand behind listed ones. -/
def Closed (ops : Array Oper) (L : Nat → Bool) : Prop := ∀ i o, ops[i]? = some o → L i = true → ∀ e ∈ o.after.toList, bindsE e = true → L e.on = true

theorem okDraw_at (h : okDraw ops b m = true) {i : Nat} {o : Oper} (hi : ops[i]? = some o) :
    (∀ e ∈ o.after.toList, bindsE e = true → e.on < i) ∧ (b.getD i 0) = o.after.toList.foldl (fun acc e => if bindsE e then acc ||| (2 ^ e.on ||| b.getD e.on 0) else acc) 0 ∧
    (i < m → ∀ k p d, k < m → ops[k]? = some p → p.dst = some d → k ≠ i → (d ∈ looks ops o ∨ o.dst = some d) → if k < i then (b.getD i 0).testBit k = true else (b.getD k 0).testBit i = true) ∧
    (m ≤ i → ∀ k, k < i → (b.getD i 0).testBit k = true) := by
  have hlt := (Array.getElem?_eq_some_iff.1 hi).1
  simp only [okDraw, Bool.and_eq_true, List.all_eq_true, List.mem_range, decide_eq_true_eq] at h
  have h1 := h.2 i hlt
  simp only [hi, Bool.and_eq_true, List.all_eq_true, Bool.or_eq_true, Bool.not_eq_true', decide_eq_true_eq, beq_iff_eq] at h1
  obtain ⟨⟨⟨h2, h3⟩, h4⟩, _⟩ := h1
  refine ⟨fun e he hb => (h2 e he).resolve_left (by simp [hb]), h3, ?_, ?_⟩
  · intro him k p d hk hp hd hki hlook
    rw [if_pos him] at h4
    simp only [List.all_eq_true, List.mem_range] at h4
    have := h4 k hk
    rw [hp] at this
    simp only [hd] at this
    have hne : (k == i) = false := by simpa using hki
    simp only [Bool.or_eq_true, Bool.and_eq_true, Bool.not_eq_true', hne, Bool.false_eq_true, or_false] at this
    rcases this with this | this
    · exfalso
      rcases hlook with hl | hl
      · have h5 := this.1
        simp only [List.contains_eq_mem, decide_eq_false_iff_not] at h5
        exact h5 hl
      · have h5 := this.2
        simp [hl] at h5
    · split <;> rename_i hlt' <;> simpa [hlt'] using this
  · intro him k hk
    rw [if_neg (by omega)] at h4
    simp only [List.all_eq_true, List.mem_range] at h4
    exact h4 k hk

theorem closed_pre (h : okDraw ops b m = true) {L : Nat → Bool} (hL : Closed ops L) : ∀ (i : Nat) o, ops[i]? = some o → (∀ e ∈ o.after.toList, bindsE e = true → L e.on = true) →
    ∀ k, (b.getD i 0).testBit k = true → L k = true := by
  intro i
  induction i using Nat.strongRecOn with
  | _ i ih =>
    intro o hi he k hk
    obtain ⟨h1, h2, _, _⟩ := okDraw_at h hi
    rw [h2] at hk
    rcases foldl_testBit _ _ _ hk with hk | ⟨e, hem, heb, hk⟩
    · simp at hk
    · rcases hk with rfl | hk
      · exact he e hem heb
      · have hlt := h1 e hem heb
        have hilt := (Array.getElem?_eq_some_iff.1 hi).1
        have hget : ops[e.on]? = some ops[e.on] := by simp [show e.on < ops.size by omega]
        exact ih e.on hlt _ hget (fun e' he' hb' => hL _ _ hget (he e hem heb) e' he' hb') k hk
end closure

/-! the states on the way -/
def stS (ops : Array Oper) (vals : Nat → A) (st : St) (S : Nat → Bool) : Nat → St
  | 0 => st
  | k + 1 => if S k = true then putD ((ops[k]?).bind (·.dst)) (vals k) (stS ops vals st S k) else stS ops vals st S k

theorem stS_H (ops : Array Oper) (vals : Nat → A) (st : St) (S : Nat → Bool) (k : Nat) : (stS ops vals st S k).H = st.H := by
  induction k with
  | zero => rfl
  | succ k ih =>
    simp only [stS]
    split
    · unfold putD; split
      · exact ih
      · exact ih
    · exact ih

theorem putD_σ (dst : Option Tmp) (v : A) (st : St) (t : Tmp) : (putD dst v st).σ t = if dst = some t then v else st.σ t := by
  unfold putD
  cases dst with
  | none => simp
  | some d => simp only [upd, Option.some.injEq]; by_cases h : t = d <;> simp [h, eq_comm]

theorem stS_agree {ops : Array Oper} {vals : Nat → A} {st : St} {S S' : Nat → Bool} {t : Tmp} : ∀ k, (∀ i, i < k → (ops[i]?).bind (·.dst) = some t → S i = S' i) →
    (stS ops vals st S k).σ t = (stS ops vals st S' k).σ t := by
  intro k
  induction k with
  | zero => intro _; rfl
  | succ k ih =>
    intro h
    have ih' := ih fun i hi => h i (by omega)
    simp only [stS]
    by_cases hd : (ops[k]?).bind (·.dst) = some t
    · rw [h k (by omega) hd]
      split
      · simp only [putD_σ, hd, if_true]
      · exact ih'
    · split <;> split <;> first | exact ih' | (simp only [putD_σ, hd, if_false]; exact ih')

theorem stS_skip {ops : Array Oper} {vals : Nat → A} {st : St} {S : Nat → Bool} {t : Tmp} {j : Nat} : ∀ k, j ≤ k → (∀ i, j ≤ i → i < k → (ops[i]?).bind (·.dst) = some t → S i = false) →
    (stS ops vals st S k).σ t = (stS ops vals st S j).σ t := by
  intro k
  induction k with
  | zero => intro h _; have : j = 0 := by omega
            subst this; rfl
  | succ k ih =>
    intro h hs
    by_cases hj : j = k + 1
    · rw [hj]
    · have ih' := ih (by omega) fun i h1 h2 => hs i h1 (by omega)
      simp only [stS]
      split
      · rename_i hS
        rw [putD_σ]
        by_cases hd : (ops[k]?).bind (·.dst) = some t
        · rw [hs k (by omega) (by omega) hd] at hS; simp at hS
        · rw [if_neg hd]; exact ih'
      · exact ih'

/-- What is known of an operation, in the order of the text. -/
def Fact (E : Env) (ops : Array Oper) (st : St) (i : Nat) (v : A) : Prop :=
  ∃ o, ops[i]? = some o ∧ dstOk E o.dst = true ∧ ((wantedA ops o st = some true ∧ Yield E o st v) ∨ (wantedA ops o st = some false ∧ v = .undef ()))

theorem aqs_facts {E : Env} {ops : Array Oper} {K : St → Prop} : ∀ (l : List Oper) (j : Nat) (st0 st : St) (vals : Nat → A), (∀ i o, l[i]? = some o → ops[j + i]? = some o) → stS ops vals st0 (fun _ => true) j = st →
    (∀ i, i < j → Fact E ops (stS ops vals st0 (fun _ => true) i) i (vals i)) → aqs E ops l K st →
    ∃ vals', (∀ i, i < j + l.length → Fact E ops (stS ops vals' st0 (fun _ => true) i) i (vals' i)) ∧ K (stS ops vals' st0 (fun _ => true) (j + l.length)) := by
  intro l
  induction l with
  | nil => intro j st0 st vals _ hst hf h; subst hst; exact ⟨vals, by simpa using hf, by simpa [aqs] using h⟩
  | cons o l ih =>
    intro j st0 st vals hl hst hf h
    have ho : ops[j]? = some o := by simpa using hl 0 o (by simp)
    have step : ∀ v, (wantedA ops o st = some true ∧ Yield E o st v ∨ wantedA ops o st = some false ∧ v = .undef ()) → dstOk E o.dst = true → aqs E ops l K (putD o.dst v st) →
        ∃ vals', (∀ i, i < j + (l.length + 1) → Fact E ops (stS ops vals' st0 (fun _ => true) i) i (vals' i)) ∧ K (stS ops vals' st0 (fun _ => true) (j + (l.length + 1))) := by
      intro v hv hd hrest
      let vals1 : Nat → A := fun i => if i = j then v else vals i
      have hsame : ∀ k, k ≤ j → stS ops vals1 st0 (fun _ => true) k = stS ops vals st0 (fun _ => true) k := by
        intro k
        induction k with
        | zero => intro _; rfl
        | succ k ihk => intro hk; simp only [stS, if_true, ihk (by omega)]; congr 1; exact if_neg (by omega)
      have h1 : stS ops vals1 st0 (fun _ => true) (j + 1) = putD o.dst v st := by
        simp only [stS, if_true, hsame j (Nat.le_refl _), hst, ho, Option.bind_some]
        show putD o.dst (if j = j then v else vals j) st = _
        rw [if_pos rfl]
      obtain ⟨vals', k1, k2⟩ := ih (j + 1) st0 (putD o.dst v st) vals1 (fun i o' hi => by have := hl (i + 1) o' (by simpa using hi); rw [show j + 1 + i = j + (i + 1) by omega]; exact this) h1 (by
        intro i hi
        rw [hsame i (by omega)]
        by_cases hij : i = j
        · subst hij; rw [hst]; refine ⟨o, ho, hd, ?_⟩; simpa [vals1] using hv
        · have := hf i (by omega); simpa [vals1, hij] using this) hrest
      exact ⟨vals', fun i hi => k1 i (by omega), by rw [show j + (l.length + 1) = j + 1 + l.length by omega]; exact k2⟩
    simp only [aqs] at h
    obtain ⟨hd, h⟩ := h
    simp only [List.length_cons]
    split at h
    · rename_i hw
      obtain ⟨v, hv, hr⟩ := h
      exact step v (.inl ⟨hw, hv⟩) hd hr
    · rename_i hw
      exact step _ (.inr ⟨hw, rfl⟩) hd h
    · exact h.elim

/-! an operation sees its operands alone -/
theorem pureA_congr {E : Env} {o : Op} {e e' : Operand → A} (h : ∀ x ∈ o.operands, e x = e' x) : pureA E o e = pureA E o e' := by
  have hopt : ∀ (x : Option Operand), (∀ y, x = some y → e y = e' y) → x.map e = x.map e' := by
    intro x hx; cases x with
    | none => rfl
    | some y => simp [hx y rfl]
  have harr : ∀ (l : Array Operand), (∀ y ∈ l, e y = e' y) → l.toList.map e = l.toList.map e' := by
    intro l hl; exact List.map_congr_left fun y hy => hl y (by simpa using hy)
  unfold pureA
  split
  · rename_i c x y; simp only [Op.operands] at h; rw [h c (by simp), h x (by simp), h y (by simp)]
  · rename_i x; simp only [Op.operands] at h; rw [h x (by simp)]
  · rename_i op t x y u; simp only [Op.operands] at h; rw [h x (by simp), h y (by simp)]
  · rename_i op t x; simp only [Op.operands] at h; rw [h x (by simp)]
  · rename_i s d x; simp only [Op.operands] at h; rw [h x (by simp)]
  · rename_i s x f; simp only [Op.operands] at h; rw [h x (by simp)]
  · rename_i s x f; simp only [Op.operands] at h; rw [h x (by simp)]
  · rename_i t x i; simp only [Op.operands] at h; rw [h x (by simp), h i (by simp)]
  · rename_i t x i; simp only [Op.operands] at h; rw [h x (by simp), h i (by simp)]
  · rename_i t x lo hi mx
    simp only [Op.operands] at h
    rw [h x (by simp), hopt lo (fun y hy => h y (by simp [hy])), hopt hi (fun y hy => h y (by simp [hy])), hopt mx (fun y hy => h y (by simp [hy]))]
  · rename_i t x; simp only [Op.operands] at h; rw [h x (by simp)]
  · rename_i f a b; simp only [Op.operands] at h; rw [harr a (fun y hy => h y (by simp [hy])), harr b (fun y hy => h y (by simp [hy]))]
  · rename_i x i; simp only [Op.operands] at h; rw [h x (by simp)]
  · rename_i args ts
    simp only [Op.operands, Call.operands] at h
    split
    · rename_i x t hx ht
      have : x ∈ args := by have : x ∈ args.toList := by rw [hx]; simp
                            simpa using this
      rw [h x (by simp [this])]
    · rfl
  · rename_i args ts; simp only [Op.operands, Call.operands] at h; rw [harr args (fun y hy => h y (by simp [hy]))]
  · rename_i args ts; simp only [Op.operands, Call.operands] at h; rw [harr args (fun y hy => h y (by simp [hy]))]
  · rfl

theorem quietA_congr {E : Env} {o : Op} {e e' : Operand → A} {H : Heap} (h : ∀ x ∈ o.operands, e x = e' x) : quietA E o e H = quietA E o e' H := by
  unfold quietA
  split
  · rename_i x; simp only [Op.operands] at h; rw [h x (by simp)]
  · rename_i x; simp only [Op.operands] at h; rw [h x (by simp)]
  · rename_i t x; simp only [Op.operands] at h; rw [h x (by simp)]
  · rename_i t len ps; simp only [Op.operands] at h
    have : ∀ size xs (l : List (Nat × Operand)), (∀ p ∈ l, e p.2 = e' p.2) → elemsQ size e xs l = elemsQ size e' xs l := by
      intro size xs l
      induction l generalizing xs with
      | nil => intro _; rfl
      | cons q l ih => intro hl; obtain ⟨i, x⟩ := q; simp only [elemsQ]; rw [hl (i, x) (by simp), ih _ fun p hp => hl p (by simp [hp])]
    have key := fun a b => this a b ps.toList (fun p hp => h p.2 (List.mem_toArray.2 (List.mem_map.2 ⟨p, hp, rfl⟩)))
    simp only [key]
  · rename_i t ps; simp only [Op.operands] at h
    have : ∀ place cs (l : List (Nat × Operand)), (∀ p ∈ l, e p.2 = e' p.2) → fillQ place e cs l = fillQ place e' cs l := by
      intro place cs l
      induction l generalizing cs with
      | nil => intro _; rfl
      | cons q l ih => intro hl; obtain ⟨i, x⟩ := q; simp only [fillQ]; rw [hl (i, x) (by simp)]; split <;> simp [ih _ fun p hp => hl p (by simp [hp])]
    have key := fun a b => this a b ps.toList (fun p hp => h p.2 (List.mem_toArray.2 (List.mem_map.2 ⟨p, hp, rfl⟩)))
    simp only [key]
  · rename_i s d x; rw [pureA_congr h]; simp only [Op.operands] at h; rw [h x (by simp)]
  · exact pureA_congr h

theorem ev_congr {st st' : St} {ops : Array Oper} {o : Oper} (h : ∀ t ∈ looks ops o, st.σ t = st'.σ t) : ∀ x ∈ o.op.operands, ev st x = ev st' x := by
  intro x hx
  cases x with
  | tmp t =>
    simp only [ev]
    refine h t ?_
    simp only [looks, Go.Oper.looksAt, List.mem_append, List.mem_filterMap]
    exact .inl ⟨.tmp t, by simpa using hx, rfl⟩
  | const v => rfl
  | func f => rfl
  | global g => rfl

theorem wanted_congr {st st' : St} {ops : Array Oper} {o : Oper} (h : ∀ t ∈ looks ops o, st.σ t = st'.σ t) : wantedA ops o st = wantedA ops o st' := by
  unfold wantedA
  split
  · rfl
  · rename_i j want hg
    split
    · rename_i t ht
      rw [h t (by simp only [looks, Go.Oper.looksAt, List.mem_append]; right; rw [hg]; simp [ht])]
    · rfl

theorem Yield_congr {E : Env} {st st' : St} {ops : Array Oper} {o : Oper} {v : A} (h : ∀ t ∈ looks ops o, st.σ t = st'.σ t) (hH : st.H = st'.H) (hy : Yield E o st v) : Yield E o st' v := by
  have he := ev_congr h
  unfold Yield at hy ⊢
  split at hy
  · rename_i f args ts ho
    rw [ho] at he
    simp only [Op.operands, Call.operands] at he
    obtain ⟨F, first, cap, r, h1, h2, h3, h4⟩ := hy
    have hargs : args.toList.map (ev st) = args.toList.map (ev st') := List.map_congr_left fun x hx => he x (by simp; right; simpa using hx)
    refine ⟨F, first, cap, r, by rw [← he f (by simp)]; exact h1, by rw [← hargs]; exact h2, by rw [← hargs, ← hH]; exact h3, h4⟩
  · rename_i hne
    rw [← hH, ← quietA_congr he]; exact hy

section
variable {E : Env} (hE : E.Ok) {fr : Fr} {g : Ghost} {vs : List (V D)} {Hs : List (Ob D)} {w : World} {a : Act} {st : St}
include hE

theorem quiet_op {dst : Option Tmp} {o : Op} {v : A} (h : quietA E o (ev st) st.H = some v) (hR : Rel fr g vs Hs w) (hA : At fr E.n g.φ st vs Hs a) : opA E dst o st = some (v, st) := by
  have hmv : ∀ {x : Operand} {v}, okv (ev st x) = some v → copyOf x st = (v, st) ∧ use x st = (v, st) := by
    intro x v hx
    obtain ⟨rfl, hf⟩ := okv_some hx
    cases x with
    | tmp t => simp only [ev] at hf ⊢; simp [copyOf, use, hf]
    | const c => exact ⟨rfl, rfl⟩
    | func c => exact ⟨rfl, rfl⟩
    | global c => exact ⟨rfl, rfl⟩
  unfold quietA at h
  split at h
  · rename_i x
    simp only [opA]
    split
    · rw [(hmv h).2]
    · rw [(hmv h).1]
  · rename_i x; simp only [opA, (hmv h).2]
  · rename_i t x
    simp only [opA, loadA]
    split at h
    · simp at h
    · rename_i u hT
      rw [hT]
      simp only
      split at h
      · rename_i cs hx
        rw [hx]
        obtain ⟨v', h1, h2⟩ := Option.bind_eq_some_iff.1 h
        obtain ⟨rfl, _⟩ := okv_some h2
        simp [h1]
      · rename_i p hx
        rw [hx]
        simp only
        split at h
        · rename_i cs hH
          rw [hH]
          obtain ⟨v', h1, h2⟩ := Option.bind_eq_some_iff.1 h
          obtain ⟨rfl, hf⟩ := okv_some h2
          simp [h1, hf]
        · simp at h
      · simp at h
  · rename_i t len ps
    simp only [opA, buildSliceA]
    split at h
    · rename_i el hd
      rw [hd]; simp only
      split at h
      · rename_i u hT
        rw [hT]; simp only
        split at h
        · rename_i hc
          rw [if_pos hc]
          have : ∀ (l : List (Nat × Operand)) xs r, elemsQ u.size (ev st) xs l = some r → elemsA u.size xs l st = some (r, st) := by
            intro l
            induction l with
            | nil => intro xs r hr; simp only [elemsQ, Option.some.injEq] at hr; subst hr; rfl
            | cons q l ih =>
              intro xs r hr
              obtain ⟨i, x⟩ := q
              simp only [elemsQ] at hr
              split at hr
              · rename_i hq
                have hu := (hmv (x := x) (v := ev st x) (by simp [okv, hq.1])).2
                simp only [elemsA, hu]
                rw [if_pos hq.2]; exact ih _ _ hr
              · simp at hr
          obtain ⟨r, hr, rfl⟩ := Option.map_eq_some_iff.1 h
          rw [this _ _ _ hr]; rfl
        · simp at h
      · simp at h
    · simp at h
  · rename_i t ps
    simp only [opA, buildA]
    split at h
    · rename_i u hT
      rw [hT]; simp only
      split at h
      · rename_i hc
        rw [if_pos hc]
        have : ∀ (l : List (Nat × Operand)) xs r, fillQ (placeA E.T u.d) (ev st) xs l = some r → fillA (placeA E.T u.d) xs l st = some (r, st) := by
          intro l
          induction l with
          | nil => intro xs r hr; simp only [fillQ, Option.some.injEq] at hr; subst hr; rfl
          | cons q l ih =>
            intro xs r hr
            obtain ⟨i, x⟩ := q
            simp only [fillQ] at hr
            split at hr
            · rename_i o n hp
              split at hr
              · rename_i hq
                have hu := (hmv (x := x) (v := ev st x) (by simp [okv, hq.1])).2
                simp only [fillA, hp, hu]
                rw [if_pos hq.2]; exact ih _ _ hr
              · simp at hr
            · simp at hr
        obtain ⟨r, hr, rfl⟩ := Option.map_eq_some_iff.1 h
        rw [this _ _ _ hr]; rfl
      · simp at h
    · simp at h
  · rename_i s' d' x
    simp only [opA]
    split at h
    · rename_i v' hv
      simp only [Option.some.injEq] at h; subst h
      rw [winStrA_bytes hv, hv]
    · rename_i hv
      rw [toBytesA_none (show convA E.T s' d' (ev st x) = some v from h), hv]
      simp only [h, Option.map_some]
  · rename_i h1 h2 h3 h4 h5 h6
    have : opA E dst o st = (pureA E o (ev st)).map fun v => (v, st) := by
      unfold opA
      split <;> first
        | rfl
        | exact absurd rfl (h1 _)
        | exact absurd rfl (h2 _)
        | exact absurd rfl (h3 _ _)
        | exact absurd rfl (h6 _ _ _)
        | (simp [pureA] at h; done)
        | skip
      rename_i x i
      unfold pureA at h ⊢
      simp only at h ⊢
      unfold extractA
      cases x with
      | tmp t =>
        simp only [ev] at h ⊢
        split at h
        · rename_i vs hσ
          rw [hσ]
          obtain ⟨v', hv1, hv2⟩ := Option.bind_eq_some_iff.1 h
          obtain ⟨rfl, hf⟩ := okv_some hv2
          simp only [hv1]
          rw [if_pos hf]
          simp [okv, hf]
        · simp at h
      | const c =>
        exfalso
        simp only [ev] at h
        cases hc : ofConst c with
        | none => rw [hc] at h; simp at h
        | some y =>
          rw [hc] at h
          simp only [Option.getD_some] at h
          have : ∀ vs, y ≠ .tup vs := by
            rintro vs rfl
            unfold ofConst at hc
            split at hc
            · obtain ⟨_, _, he⟩ := Option.map_eq_some_iff.1 hc; simp at he
            · unfold ofConst1 at hc; split at hc <;> simp at hc
          split at h
          · exact this _ rfl
          · simp at h
      | func c => simp [ev] at h
      | global c => simp only [ev] at h; cases hq : Glob.tab c <;> simp [hq] at h
    rw [this, h]; rfl

omit hE in
theorem wp_exit_free {o : Oper} {rd : Option Nat} {next : Act → World → Prop} {Q : X → St → Prop} {S : Exit → Act → World → Prop} (h : o.wpIn (fen rd) 0 E.P a w next (Snd E fr Q)) : o.wpIn (fen rd) 0 E.P a w next S := by
  unfold Oper.wpIn at *
  refine ⟨h.1, ?_⟩
  have h := h.2
  generalize (o.semAt (fen rd).round a.eval).run E.P w = r at *
  have hend : ∀ e w'', (match e with | Ending.returned v => next (a.put o.dst v) w'' | .panicked chain => Snd E fr Q (.panic chain) a w'' | .outgrown => LetsOut (Snd E fr Q)) →
      (match e with | Ending.returned v => next (a.put o.dst v) w'' | .panicked chain => S (.panic chain) a w'' | .outgrown => LetsOut S) := by
    intro e w'' he
    cases e with
    | returned v => exact he
    | panicked c => obtain ⟨x, _, _, _, _, hx, _⟩ := he; cases x <;> simp [X.of] at hx
    | outgrown => obtain ⟨_, _, x, _, _, _, _, hx, _⟩ := he; cases x <;> simp [X.of] at hx
  cases r with
  | ok n w' =>
    cases n <;> simp only [Oper.uponIn] at h ⊢ <;> first
      | exact h
      | exact ⟨h.1, CallsIn.mono h.2 fun e w'' he => by cases e <;> first | exact hend _ _ he | exact hend (.returned _) w'' he | exact hend (.panicked _) w'' he | exact hend .outgrown w'' he⟩
      | exact ⟨h.1, RoundIn.mono h.2 fun e w'' he => by cases e <;> first | exact hend _ _ he | exact hend (.returned _) w'' he | exact hend (.panicked _) w'' he | exact hend .outgrown w'' he⟩
  | halt x w' =>
    cases x <;> simp only [Oper.uponIn] at h ⊢ <;> first
      | exact h
      | (obtain ⟨x, _, _, _, _, hx, _⟩ := h; cases x <;> simp [X.of] at hx)

/-- One operation, in the model. -/
theorem one_sound {ops : Array Oper} {i : Nat} {o : Oper} {K : St → Prop} {S : Exit → Act → World → Prop} {next : Act → World → Prop} (ho : ops[i]? = some o) (hlist : awl E ops [o] K st) (hR : Rel fr g vs Hs w) (hA : At fr E.n g.φ st vs Hs a)
    (hK : ∀ st1 g1 vs1 Hs1 a1 w1, K st1 → Rel fr g1 vs1 Hs1 w1 → At fr E.n g1.φ st1 vs1 Hs1 a1 → next a1 w1) : wpOpIn (fen fr.rd) 0 E.P ops S i next a w := by
  have hwp := awl_sound hE (fr := fr) (Q := fun _ st1 => K st1) [o] st g vs Hs a w hlist hR hA
  unfold wpOpIn
  rw [ho]
  unfold wpListIn at hwp
  have hnext : ∀ a1 w1, wpListIn (fen fr.rd) 0 E.P ops (Snd E fr fun _ st1 => K st1) [] a1 w1 → next a1 w1 := by
    rintro a1 w1 ⟨x, st1, g1, vs1, Hs1, _, h2, h3, h4⟩
    exact hK st1 g1 vs1 Hs1 a1 w1 h4 h2 h3
  simp only
  split at hwp
  · rename_i hw
    rw [if_pos hw]
    exact wp_exit_free (Oper.wpIn_mono hnext hwp)
  · rename_i hw
    rw [if_neg hw]
    exact ⟨fun _ _ => trivial, hnext _ _ hwp.2⟩

/-- An operation that touches nothing, in the model. -/
theorem fact_sound {ops : Array Oper} {i : Nat} {v : A} {S : Exit → Act → World → Prop} {next : Act → World → Prop} (hf : Fact E ops st i v) (hR : Rel fr g vs Hs w) (hA : At fr E.n g.φ st vs Hs a)
    (hn : ∀ g1 vs1 Hs1 a1 w1, Rel fr g1 vs1 Hs1 w1 → At fr E.n g1.φ (putD ((ops[i]?).bind (·.dst)) v st) vs1 Hs1 a1 → next a1 w1) : wpOpIn (fen fr.rd) 0 E.P ops S i next a w := by
  obtain ⟨o, ho, hd, hc⟩ := hf
  have hput : ∀ v, put E o.dst v st = some (putD o.dst v st) := by
    intro v
    cases hdst : o.dst with
    | none => rfl
    | some d =>
      rw [hdst] at hd
      simp only [dstOk, decide_eq_true_eq] at hd
      simp only [put, putD]
      rw [if_pos hd]
  have hK : ∀ st1 g1 vs1 Hs1 a1 w1, st1 = putD o.dst v st → Rel fr g1 vs1 Hs1 w1 → At fr E.n g1.φ st1 vs1 Hs1 a1 → next a1 w1 := by
    rintro st1 g1 vs1 Hs1 a1 w1 rfl h1 h2
    exact hn g1 vs1 Hs1 a1 w1 h1 (by rw [ho]; exact h2)
  -- by the list of one operation
  have hlist : awl E ops [o] (fun st1 => st1 = putD o.dst v st) st := by
    rcases hc with ⟨hw, hy⟩ | ⟨hw, rfl⟩
    · simp only [awl, hw]
      unfold Yield at hy
      split at hy
      · rename_i f args ts hop
        obtain ⟨F, first, cap, r, h1, h2, h3, rfl⟩ := hy
        rw [hop]
        simp only [Bool.and_eq_true] at h2
        have huse : ∀ l : List Operand, (l.map (ev st)).all flagless = true → useL l st = (l.map (ev st), st) := by
          intro l
          induction l with
          | nil => intro _; rfl
          | cons x l ih =>
            intro hl
            simp only [List.map_cons, List.all_cons, Bool.and_eq_true] at hl
            have hx : use x st = (ev st x, st) := by
              cases x with
              | tmp t => simp only [ev] at hl ⊢; simp [use, hl.1]
              | const c => rfl
              | func c => rfl
              | global c => rfl
            simp only [useL, hx, ih hl.2, List.map_cons]
        simp only [CallA, h1]
        rw [if_pos (by rw [Bool.and_eq_true]; exact h2.1), huse _ h2.2]
        refine h3.mono ?_
        rintro x H' ⟨rfl, rfl⟩
        unfold After
        rw [hput]
      · rename_i hne
        obtain ⟨r, hr, rfl⟩ := hy
        have := quiet_op (dst := o.dst) hE hr hR hA
        split
        · rename_i f args ts hop; exact absurd hop (hne _ _ _)
        · simp only [stepA, this, hput]
    · simp only [awl, hw, hput]
  exact one_sound hE ho hlist hR hA hK

omit hE in
theorem mem_ready {ops : Array Oper} {L : Array Bool} {i : Nat} (h : i ∈ Region.ready .any ops L) : ∃ o, ops[i]? = some o ∧ L.getD i true = false ∧ ∀ e ∈ o.after.toList, bindsE e = true → L.getD e.on false = true := by
  simp only [Region.ready, List.mem_filter, List.mem_range, Bool.and_eq_true, Bool.not_eq_true'] at h
  obtain ⟨h1, h2, h3⟩ := h
  have ho : ops[i]? = some ops[i] := by simp [h1]
  rw [ho] at h3
  simp only [Option.map_some, Option.getD_some] at h3
  refine ⟨ops[i], ho, h2, fun e he hb => ?_⟩
  have := Array.all_eq_true_iff_forall_mem.1 h3 e (by simpa using he)
  simp only [Bool.or_eq_true, Bool.not_eq_true'] at this
  exact this.resolve_left (by unfold bindsE at hb; rw [hb]; simp)

omit hE in
theorem ready_least {ops : Array Oper} {b : List Nat} {m : Nat} (hok : okDraw ops b m = true) {L : Array Bool} (hs : L.size = ops.size) {i : Nat} (hi : i < ops.size) (hu : L.getD i false = false)
    (hl : ∀ k, k < i → L.getD k false = true) : i ∈ Region.ready .any ops L := by
  simp only [Region.ready, List.mem_filter, List.mem_range, Bool.and_eq_true, Bool.not_eq_true']
  have ho : ops[i]? = some ops[i] := by simp [hi]
  refine ⟨hi, ?_, ?_⟩
  · rw [Array.getD_eq_getD_getElem?] at hu ⊢
    have : L[i]? = some L[i] := Array.getElem?_eq_getElem (by omega)
    rw [this] at hu ⊢; exact hu
  · rw [ho]
    simp only [Option.map_some, Option.getD_some]
    apply Array.all_eq_true_iff_forall_mem.2
    intro e he
    by_cases hb : Region.binds .any e = true
    · have := (okDraw_at hok ho).1 e (by simpa using he) hb
      simp [hl _ this]
    · simp [hb]

omit hE in
theorem getD_setB {L : Array Bool} {i k : Nat} (hi : i < L.size) : (L.setIfInBounds i true).getD k false = if k = i then true else L.getD k false := by
  rw [Array.getD_eq_getD_getElem?, Array.getD_eq_getD_getElem?, Array.getElem?_setIfInBounds]
  by_cases h : i = k
  · subst h; simp [hi]
  · rw [if_neg h, if_neg (fun e => h e.symm)]

omit hE in
theorem closed_set {ops : Array Oper} {L : Array Bool} {i : Nat} {o : Oper} (hs : L.size = ops.size) (ho : ops[i]? = some o) (hc : Closed ops (fun k => L.getD k false)) (he : ∀ e ∈ o.after.toList, bindsE e = true → L.getD e.on false = true) :
    Closed ops (fun k => (L.setIfInBounds i true).getD k false) := by
  have hi : i < L.size := by rw [hs]; exact (Array.getElem?_eq_some_iff.1 ho).1
  intro k p hp hk e hem hb
  simp only [getD_setB hi] at hk ⊢
  by_cases h : e.on = i
  · simp [h]
  · rw [if_neg h]
    by_cases hki : k = i
    · subst hki; rw [ho] at hp; simp only [Option.some.injEq] at hp; subst hp; exact he e hem hb
    · rw [if_neg hki] at hk; exact hc k p hp hk e hem hb

/-- The tail comes in order. -/
theorem draw_tail {ops : Array Oper} {b : List Nat} {m : Nat} (hok : okDraw ops b m = true) {Q : X → St → Prop} :
    ∀ (fuel j : Nat) (L : Array Bool) (st : St) (g : Ghost) (vs : List (V D)) (Hs : List (Ob D)) (a : Act) (w : World), m ≤ j → j ≤ ops.size → ops.size - j ≤ fuel → L.size = ops.size → Closed ops (fun i => L.getD i false) →
      (∀ i, i < j → L.getD i false = true) → (∀ i, j ≤ i → L.getD i false = false) → awl E ops (ops.toList.drop j) (Q .normal) st →
      Rel fr g vs Hs w → At fr E.n g.φ st vs Hs a → wpAnyIn (fen fr.rd) 0 E.P .any ops (Snd E fr Q) fuel L a w := by
  intro fuel
  induction fuel with
  | zero =>
    intro j L st g vs Hs a w hmj hj hfu hs hc h1 h2 hT hR hA
    have hjn : j = ops.size := by omega
    have hr : Region.ready .any ops L = [] := by
      refine List.eq_nil_iff_forall_not_mem.2 fun i hi => ?_
      obtain ⟨o, ho, hu, _⟩ := mem_ready hi
      have hlt := (Array.getElem?_eq_some_iff.1 ho).1
      have := h1 i (by omega)
      rw [Array.getD_eq_getD_getElem?, Array.getElem?_eq_getElem (by omega)] at this hu
      simp_all
    refine ⟨hr, ?_⟩
    rw [hjn, List.drop_of_length_le (by simp)] at hT
    exact ⟨.normal, st, g, vs, Hs, rfl, hR, hA, hT⟩
  | succ fuel ih =>
    intro j L st g vs Hs a w hmj hj hfu hs hc h1 h2 hT hR hA
    refine ⟨fun hr => ?_, fun i hi => ?_⟩
    · by_cases hjn : j = ops.size
      · rw [hjn, List.drop_of_length_le (by simp)] at hT
        exact ⟨.normal, st, g, vs, Hs, rfl, hR, hA, hT⟩
      · have := ready_least hok hs (by omega : j < ops.size) (h2 j (Nat.le_refl _)) h1
        rw [hr] at this; simp at this
    · obtain ⟨o, ho, hu, he⟩ := mem_ready hi
      have hlt := (Array.getElem?_eq_some_iff.1 ho).1
      have hu' : L.getD i false = false := by
        rw [Array.getD_eq_getD_getElem?, Array.getElem?_eq_getElem (by omega)] at hu ⊢; exact hu
      have hij : j ≤ i := by
        rcases Nat.lt_or_ge i j with h | h
        · rw [h1 i h] at hu'; simp at hu'
        · exact h
      have hji : i = j := by
        rcases Nat.lt_or_ge j i with h | h
        · have := closed_pre hok hc i o ho he j ((okDraw_at hok ho).2.2.2 (by omega) j h)
          rw [h2 j (Nat.le_refl _)] at this; simp at this
        · omega
      subst hji
      have hdrop : ops.toList.drop i = o :: ops.toList.drop (i + 1) := by
        rw [List.drop_eq_getElem_cons (by simpa using hlt)]
        congr 1
        have := (Array.getElem?_eq_some_iff.1 ho).2
        simpa using this
      rw [hdrop] at hT
      have hone : awl E ops [o] (fun st1 => awl E ops (ops.toList.drop (i + 1)) (Q .normal) st1) st := by
        unfold awl at hT ⊢; exact hT
      refine one_sound hE ho hone hR hA fun st1 g1 vs1 Hs1 a1 w1 hK hR1 hA1 => ?_
      refine ih (i + 1) _ st1 g1 vs1 Hs1 a1 w1 (by omega) (by omega) (by omega) (by simpa using hs) (closed_set hs ho hc he) ?_ ?_ hK hR1 hA1
      · intro k hk
        rw [getD_setB (by omega)]
        split
        · rfl
        · exact h1 k (by omega)
      · intro k hk
        rw [getD_setB (by omega), if_neg (by omega)]
        exact h2 k (by omega)

/-- The tail comes in order; the rest in whatever order. -/
theorem draw_any {ops : Array Oper} {b : List Nat} {m : Nat} (hok : okDraw ops b m = true) {Q : X → St → Prop} {vals : Nat → A} {st : St}
    (hf : ∀ i, i < m → Fact E ops (stS ops vals st (fun _ => true) i) i (vals i))
    (hT : awl E ops (ops.toList.drop m) (Q .normal) (stS ops vals st (fun _ => true) m)) :
    ∀ (fuel : Nat) (L : Array Bool) (g : Ghost) (vs : List (V D)) (Hs : List (Ob D)) (a : Act) (w : World),
      L.size = ops.size → (L.toList.filter (fun x => !x)).length ≤ fuel → Closed ops (fun i => L.getD i false) → (∀ i, m ≤ i → L.getD i false = false) →
      Rel fr g vs Hs w → At fr E.n g.φ (stS ops vals st (fun i => L.getD i false) m) vs Hs a → wpAnyIn (fen fr.rd) 0 E.P .any ops (Snd E fr Q) fuel L a w := by
  intro fuel
  have hcount : ∀ (L : Array Bool) (i : Nat), i < L.size → L.getD i false = false → ((L.setIfInBounds i true).toList.filter (fun x => !x)).length + 1 = (L.toList.filter (fun x => !x)).length := by
    intro L i hi hu
    rw [Array.getD_eq_getD_getElem?, Array.getElem?_eq_getElem hi] at hu
    simp only [Option.getD_some] at hu
    have h1 : L.toList = L.toList.take i ++ false :: L.toList.drop (i + 1) := by
      have h2 : L.toList.drop i = false :: L.toList.drop (i + 1) := by
        rw [List.drop_eq_getElem_cons (by simpa using hi)]
        congr 1
      rw [← h2, List.take_append_drop]
    have h3 : (L.setIfInBounds i true).toList = L.toList.take i ++ true :: L.toList.drop (i + 1) := by
      rw [Array.toList_setIfInBounds, List.set_eq_take_append_cons_drop, if_pos (by simpa using hi)]
    rw [h3]
    conv => rhs; rw [h1]
    simp only [List.filter_append, List.filter_cons, List.length_append, Bool.not_true, Bool.not_false, if_true, Bool.false_eq_true, if_false, List.length_cons]
    omega
  have hm : m ≤ ops.size := by
    simp only [okDraw, Bool.and_eq_true, decide_eq_true_eq] at hok; exact hok.1
  have htailstart : ∀ (fuel : Nat) (L : Array Bool) (g : Ghost) (vs : List (V D)) (Hs : List (Ob D)) (a : Act) (w : World),
      L.size = ops.size → (L.toList.filter (fun x => !x)).length ≤ fuel → Closed ops (fun i => L.getD i false) → (∀ i, m ≤ i → L.getD i false = false) → (∀ i, i < m → L.getD i false = true) →
      Rel fr g vs Hs w → At fr E.n g.φ (stS ops vals st (fun i => L.getD i false) m) vs Hs a → wpAnyIn (fen fr.rd) 0 E.P .any ops (Snd E fr Q) fuel L a w := by
    intro fuel L g vs Hs a w hs hfu hc h2 h1 hR hA
    have hst : stS ops vals st (fun i => L.getD i false) m = stS ops vals st (fun _ => true) m := by
      have : ∀ k, k ≤ m → stS ops vals st (fun i => L.getD i false) k = stS ops vals st (fun _ => true) k := by
        intro k
        induction k with
        | zero => intro _; rfl
        | succ k ih => intro hk; simp only [stS, h1 k (by omega), if_true, ih (by omega)]
      exact this m (Nat.le_refl _)
    rw [hst] at hA
    refine draw_tail hE hok fuel m L _ g vs Hs a w (Nat.le_refl _) hm ?_ hs hc h1 h2 hT hR hA
    have hfl : (L.toList.filter (fun x => !x)).length = ops.size - m := by
      have h3 : L.toList = List.replicate m true ++ List.replicate (ops.size - m) false := by
        apply List.ext_getElem?
        intro i
        rw [List.getElem?_append, List.length_replicate]
        by_cases hi : i < m
        · have := h1 i hi
          rw [Array.getD_eq_getD_getElem?, Array.getElem?_eq_getElem (by omega)] at this
          simp only [Option.getD_some] at this
          rw [if_pos hi, List.getElem?_replicate, if_pos hi, Array.getElem?_toList, Array.getElem?_eq_getElem (by omega), this]
        · rw [if_neg hi, List.getElem?_replicate]
          by_cases hi2 : i < ops.size
          · have := h2 i (by omega)
            rw [Array.getD_eq_getD_getElem?, Array.getElem?_eq_getElem (by omega)] at this
            simp only [Option.getD_some] at this
            rw [if_pos (by omega), Array.getElem?_toList, Array.getElem?_eq_getElem (by omega), this]
          · rw [if_neg (by omega), Array.getElem?_toList, Array.getElem?_eq_none (by omega)]
      rw [h3]; simp
    omega
  induction fuel with
  | zero =>
    intro L g vs Hs a w hs hfu hc h2 hR hA
    have hall : ∀ i, i < ops.size → L.getD i false = true := by
      intro i hi
      have h0 : L.toList.filter (fun x => !x) = [] := List.eq_nil_of_length_eq_zero (by omega)
      rw [List.filter_eq_nil_iff] at h0
      have := h0 L[i] (by simp)
      rw [Array.getD_eq_getD_getElem?, Array.getElem?_eq_getElem (by omega)]
      simpa using this
    exact htailstart 0 L g vs Hs a w hs hfu hc h2 (fun i hi => hall i (by omega)) hR hA
  | succ fuel ih =>
    intro L g vs Hs a w hs hfu hc h2 hR hA
    by_cases hdone : ∀ i, i < m → L.getD i false = true
    · exact htailstart (fuel + 1) L g vs Hs a w hs hfu hc h2 hdone hR hA
    · refine ⟨fun hr => ?_, fun i hi => ?_⟩
      · exfalso
        -- the least operation that is not listed
        have : ∃ i, i < ops.size ∧ L.getD i false = false ∧ ∀ k, k < i → L.getD k false = true := by
          have hex : ∃ i, i < m ∧ L.getD i false = false := by
            simp only [Classical.not_forall] at hdone
            obtain ⟨i, hi, h⟩ := hdone
            exact ⟨i, hi, by simpa using h⟩
          obtain ⟨i0, hi0, hu0⟩ := hex
          have key : ∀ n, (∃ i, i ≤ n ∧ L.getD i false = false) → ∃ i, i ≤ n ∧ L.getD i false = false ∧ ∀ k, k < i → L.getD k false = true := by
            intro n
            induction n with
            | zero => rintro ⟨i, hi, h⟩; exact ⟨i, hi, h, fun k hk => by omega⟩
            | succ n ihn =>
              rintro ⟨i, hi, h⟩
              by_cases hex : ∃ i, i ≤ n ∧ L.getD i false = false
              · obtain ⟨j, hj, h1, h2⟩ := ihn hex; exact ⟨j, by omega, h1, h2⟩
              · refine ⟨i, hi, h, fun k hk => ?_⟩
                cases hkv : L.getD k false with
                | true => rfl
                | false => exact absurd ⟨k, by omega, hkv⟩ hex
          obtain ⟨i, hi, h1, h2⟩ := key i0 ⟨i0, Nat.le_refl _, hu0⟩
          exact ⟨i, by omega, h1, h2⟩
        obtain ⟨i, hi, hu, hl⟩ := this
        have := ready_least hok hs hi hu hl
        rw [hr] at this; simp at this
      · obtain ⟨o, ho, hu, he⟩ := mem_ready hi
        have hlt := (Array.getElem?_eq_some_iff.1 ho).1
        have hu' : L.getD i false = false := by
          rw [Array.getD_eq_getD_getElem?, Array.getElem?_eq_getElem (by omega)] at hu ⊢; exact hu
        have him : i < m := by
          rcases Nat.lt_or_ge i m with h | h
          · exact h
          · exfalso
            refine hdone fun k hk => ?_
            exact closed_pre hok hc i o ho he k ((okDraw_at hok ho).2.2.2 h k (by omega))
        obtain ⟨_, _, hlook, _⟩ := okDraw_at hok ho
        -- the operands read as in the order of the text
        have hclosed := closed_pre hok hc
        have hbefore : ∀ k, (b.getD i 0).testBit k = true → L.getD k false = true := hclosed i o ho he
        have hafter : ∀ k p, ops[k]? = some p → (b.getD k 0).testBit i = true → L.getD k false = false := by
          intro k p hp hk
          cases hkv : L.getD k false with
          | false => rfl
          | true =>
            have := hclosed k p hp (fun e hem hb => hc k p hp hkv e hem hb) i hk
            rw [hu'] at this; simp at this
        have hdstk : ∀ {k : Nat} {t : Tmp}, (ops[k]?).bind (·.dst) = some t → ∃ p : Oper, ops[k]? = some p ∧ p.dst = some t := by
          intro k t h; obtain ⟨p, h1, h2⟩ := Option.bind_eq_some_iff.1 h; exact ⟨p, h1, h2⟩
        have hag : ∀ t ∈ looks ops o, (stS ops vals st (fun _ => true) i).σ t = (stS ops vals st (fun i => L.getD i false) m).σ t := by
          intro t ht
          have e1 := stS_skip (ops := ops) (vals := vals) (st := st) (S := fun i => L.getD i false) (t := t) (j := i) m (by omega) (by
            intro k hk1 hk2 hd
            obtain ⟨p, hp, hpd⟩ := hdstk hd
            by_cases hki : k = i
            · subst hki; exact hu'
            · have := hlook him k p t hk2 hp hpd hki (.inl ht)
              rw [if_neg (by omega)] at this
              exact hafter k p hp this)
          rw [e1]
          refine stS_agree i fun k hk hd => ?_
          obtain ⟨p, hp, hpd⟩ := hdstk hd
          have := hlook him k p t (by omega) hp hpd (by omega) (.inl ht)
          rw [if_pos hk] at this
          exact (hbefore k this).symm
        have hfact : Fact E ops (stS ops vals st (fun i => L.getD i false) m) i (vals i) := by
          obtain ⟨o', ho', hd, hcase⟩ := hf i him
          rw [ho] at ho'
          simp only [Option.some.injEq] at ho'
          subst ho'
          refine ⟨o, ho, hd, ?_⟩
          rw [← wanted_congr hag]
          exact hcase.imp (fun h => ⟨h.1, Yield_congr hag (by rw [stS_H, stS_H]) h.2⟩) id
        refine fact_sound hE hfact hR hA fun g1 vs1 Hs1 a1 w1 hR1 hA1 => ?_
        refine ih _ g1 vs1 Hs1 a1 w1 (by simpa using hs) (by have := hcount L i (by omega) hu'; omega) (closed_set hs ho hc he) ?_ hR1 ?_
        · intro k hk
          rw [getD_setB (by omega), if_neg (by omega)]
          exact h2 k hk
        · have hst : putD ((ops[i]?).bind (·.dst)) (vals i) (stS ops vals st (fun i => L.getD i false) m) = stS ops vals st (fun k => (L.setIfInBounds i true).getD k false) m := by
            have hσ : (putD ((ops[i]?).bind (·.dst)) (vals i) (stS ops vals st (fun i => L.getD i false) m)).σ = (stS ops vals st (fun k => (L.setIfInBounds i true).getD k false) m).σ := by
              funext t
              rw [putD_σ]
              by_cases hd : (ops[i]?).bind (·.dst) = some t
              · rw [if_pos hd]
                have hod : o.dst = some t := by rw [ho] at hd; exact hd
                have e1 := stS_skip (ops := ops) (vals := vals) (st := st) (S := fun k => (L.setIfInBounds i true).getD k false) (t := t) (j := i + 1) m (by omega) (by
                  intro k hk1 hk2 hd'
                  obtain ⟨p, hp, hpd⟩ := hdstk hd'
                  have := hlook him k p t hk2 hp hpd (by omega) (.inr hod)
                  rw [if_neg (by omega)] at this
                  rw [getD_setB (by omega), if_neg (by omega)]
                  exact hafter k p hp this)
                rw [e1]
                simp only [stS]
                rw [if_pos (by rw [getD_setB (by omega), if_pos rfl]), putD_σ, if_pos hd]
              · rw [if_neg hd]
                refine stS_agree m fun k _ hk => ?_
                have hki : k ≠ i := fun e => hd (by rw [← e]; exact hk)
                rw [getD_setB (by omega), if_neg hki]
            have hH : (putD ((ops[i]?).bind (·.dst)) (vals i) (stS ops vals st (fun i => L.getD i false) m)).H = (stS ops vals st (fun k => (L.setIfInBounds i true).getD k false) m).H := by
              rw [stS_H]
              unfold putD
              split <;> rw [stS_H]
            generalize putD ((ops[i]?).bind (·.dst)) (vals i) (stS ops vals st (fun i => L.getD i false) m) = s1 at *
            generalize stS ops vals st (fun k => (L.setIfInBounds i true).getD k false) m = s2 at *
            cases s1; cases s2; simp_all
          rw [← hst]; exact hA1
end

/-- A statement whose order is open. -/
theorem AW.draw {E : Env} (hE : E.Ok) {id : Nat} {l : List Oper} {Q : X → St → Prop} {st : St} (b : List Nat) (m : Nat) (hmx : E.P.follows .mixedOrders = true) (hok : okDraw l.toArray b m = true)
    (h : aqs E l.toArray (l.take m) (fun st' => awl E l.toArray (l.drop m) (Q .normal) st') st) : AW E (.region id l.toArray true) Q st := by
  intro fr g vs Hs a w _ hR hA
  refine Code.wpIn_mono Snd.snx (wpIn_region_any hmx ?_)
  have hm : m ≤ l.length := by
    simp only [okDraw, Bool.and_eq_true, decide_eq_true_eq] at hok; simpa using hok.1
  obtain ⟨vals, h1, h2⟩ := aqs_facts (l.take m) 0 st st (fun _ => .undef ()) (by
    intro i o hi
    rw [List.getElem?_take] at hi
    split at hi
    · simpa using hi
    · simp at hi) rfl (by intro i hi; omega) h
  simp only [Nat.zero_add, List.length_take, Nat.min_eq_left hm] at h1 h2
  refine draw_any hE hok (vals := vals) (st := st) h1 h2 l.toArray.size (Array.replicate l.toArray.size false) g vs Hs a { w with drawn := w.drawn + 1 } (by simp) (by simpa using List.length_filter_le _ _) ?_ ?_ (hR.drew _) ?_
  · intro i o ho hL
    simp only at hL
    rw [Array.getD_eq_getD_getElem?, Array.getElem?_replicate] at hL
    split at hL <;> simp at hL
  · intro i _
    rw [Array.getD_eq_getD_getElem?, Array.getElem?_replicate]
    split <;> rfl
  · have : ∀ k, stS l.toArray vals st (fun i => (Array.replicate l.toArray.size false).getD i false) k = st := by
      intro k
      induction k with
      | zero => rfl
      | succ k ih =>
        simp only [stS]
        rw [if_neg, ih]
        rw [Array.getD_eq_getD_getElem?, Array.getElem?_replicate]
        split <;> simp
    rw [this]; exact hA
end Go.Ab
end
