/- Abstract values and rules for them, proved sound over the model. -/
import Derived.Test.YtbdhocfaebchfaaOpLAbFrame
set_option linter.all false
set_option linter.unusedSimpArgs false
set_option linter.unusedVariables false
set_option linter.unnecessarySimpa false
section
/- Statements whose order is open: quiet operations, and a chain of others. -/
namespace Go.Ab
open V
variable [Glob]
set_option linter.unusedSimpArgs false
set_option linter.unusedVariables false
set_option linter.unusedSectionVars false

/-- A call that keeps the heap. -/
def QC (P : Program) (F : FuncId) (args : List A) (H : Heap) (K : A → Prop) : Prop := ∃ r, AC P F args H (fun x H' => x = r ∧ H' = H) ∧ K r
theorem QC.mk {P : Program} {F : FuncId} {args : List A} {H : Heap} {K : A → Prop} {r : A} (h : AC P F args H (fun x H' => x = r ∧ H' = H)) (k : K r) : QC P F args H K := ⟨r, h, k⟩

def CallQ (E : Env) (f : Operand) (args : List Operand) (st : St) (K : A → Prop) : Prop :=
  match ev st f with
  | .fn (.func F) first cap => if (first.all flagless && cap.all flagless && (args.map (ev st)).all flagless) = true then QC E.P F (first ++ args.map (ev st) ++ cap) st.H K else False
  | _ => False

/-- One quiet operation: K of its value. -/
def quiet1 (E : Env) (ops : Array Oper) (o : Oper) (K : A → Prop) (st : St) : Prop :=
  dstOk E o.dst = true ∧
  match wantedA ops o st with
  | some true => (match o.op with
    | .call { callee := .value f, args, argTypes := _ } => CallQ E f args.toList st fun r => K (frzA E o.dst r)
    | op => match quietA E op (ev st) st.H with
      | some r => K (frzA E o.dst r)
      | none => False)
  | some false => K (.undef ())
  | none => False

/-- Quiet operations, one behind the other. -/
def aqi (E : Env) (ops : Array Oper) : List Nat → (St → Prop) → St → Prop
  | [], K, st => K st
  | i :: l, K, st => match ops[i]? with
    | some o => quiet1 E ops o (fun v => aqi E ops l K (putD o.dst v st)) st
    | none => False

def same1 (dst : Option Tmp) (v : A) (st : St) : Prop :=
  match dst with
  | some d => st.σ d = v
  | none => True

/-- They would say again what they said. -/
def facts (E : Env) (ops : Array Oper) : List Nat → St → Prop
  | [], _ => True
  | i :: l, st => (match ops[i]? with
    | some o => quiet1 E ops o (fun v => same1 o.dst v st) st
    | none => False) ∧ facts E ops l st

def chk (E : Env) (ops : Array Oper) : List (Nat × List Nat × List Nat) → (St → Prop) → St → Prop
  | [], Q, f => Q f
  | (c, F, nw) :: r, Q, f => match ops[c]? with
    | some o => awl E ops [o] (fun f1 => facts E ops F f1 ∧ aqi E ops nw (fun f2 => chk E ops r Q f2) f1) f
    | none => False

/-! the static side -/
def dstAt (ops : Array Oper) (i : Nat) : Option Tmp := (ops[i]?).bind (·.dst)
def lookAt (ops : Array Oper) (i : Nat) : List Tmp := match ops[i]? with | some o => looks ops o | none => []
/-- i neither writes what k reads, nor where k writes. -/
def apart (ops : Array Oper) (i k : Nat) : Bool := match dstAt ops i with | none => true | some d => !(lookAt ops k).contains d && dstAt ops k != some d
def unread (ops : Array Oper) (i k : Nat) : Bool := match dstAt ops i with | none => true | some d => !(lookAt ops k).contains d
def okSeq (ops : Array Oper) : List Nat → Bool
  | [] => true
  | a :: l => unread ops a a && l.all (fun a' => apart ops a' a) && okSeq ops l
def okTab (ops : Array Oper) (b : List Nat) : Bool :=
  (List.range ops.size).all fun i =>
    match ops[i]? with
    | none => false
    | some o => (o.after.toList.all fun e => !bindsE e || decide (e.on < i)) &&
      ((b.getD i 0) == o.after.toList.foldl (fun acc e => if bindsE e then acc ||| (2 ^ e.on ||| b.getD e.on 0) else acc) 0)
def okLay (ops : Array Oper) (b : List Nat) (I : List Nat) : List (Nat × List Nat × List Nat) → Bool
  | [] => I.all fun a => I.all fun a' => unread ops a' a || (b.getD a 0).testBit a'
  | (c, F, nw) :: r =>
    (I.all fun a => (b.getD c 0).testBit a || (F.contains a && unread ops a c)) && !I.contains c && !nw.contains c &&
    r.all (fun p => (b.getD p.1 0).testBit c) && nw.all (fun a => (b.getD a 0).testBit c) && okSeq ops nw &&
    F.all (fun a => nw.all fun a' => apart ops a' a) && okLay ops b (I ++ nw) r
def okChain (ops : Array Oper) (b : List Nat) (I : List Nat) (C : List (Nat × List Nat × List Nat)) : Bool :=
  okTab ops b && okSeq ops I && okLay ops b I C && (List.range ops.size).all fun i => I.contains i || C.any fun p => p.1 == i || p.2.2.contains i

section static
variable {ops : Array Oper} {b : List Nat}

theorem okTab_at (h : okTab ops b = true) {i : Nat} {o : Oper} (hi : ops[i]? = some o) :
    (∀ e ∈ o.after.toList, bindsE e = true → e.on < i) ∧ (b.getD i 0) = o.after.toList.foldl (fun acc e => if bindsE e then acc ||| (2 ^ e.on ||| b.getD e.on 0) else acc) 0 := by
  have hlt := (Array.getElem?_eq_some_iff.1 hi).1
  simp only [okTab, List.all_eq_true, List.mem_range] at h
  have h1 := h i hlt
  simp only [hi, Bool.and_eq_true, List.all_eq_true, Bool.or_eq_true, Bool.not_eq_true', decide_eq_true_eq, beq_iff_eq] at h1
  exact ⟨fun e he hb => (h1.1 e he).resolve_left (by simp [hb]), h1.2⟩

theorem closed_pre' (h : okTab ops b = true) {L : Nat → Bool} (hL : Closed ops L) : ∀ (i : Nat) o, ops[i]? = some o → (∀ e ∈ o.after.toList, bindsE e = true → L e.on = true) →
    ∀ k, (b.getD i 0).testBit k = true → L k = true := by
  intro i
  induction i using Nat.strongRecOn with
  | _ i ih =>
    intro o hi he k hk
    obtain ⟨h1, h2⟩ := okTab_at h hi
    rw [h2] at hk
    rcases foldl_testBit _ _ _ hk with hk | ⟨e, hem, heb, hk⟩
    · simp at hk
    · rcases hk with rfl | hk
      · exact he e hem heb
      · have hlt := h1 e hem heb
        have hilt := (Array.getElem?_eq_some_iff.1 hi).1
        have hget : ops[e.on]? = some ops[e.on] := by simp [show e.on < ops.size by omega]
        exact ih e.on hlt _ hget (fun e' he' hb' => hL _ _ hget (he e hem heb) e' he' hb') k hk

theorem ready_least' (hok : okTab ops b = true) {L : Array Bool} (hs : L.size = ops.size) {i : Nat} (hi : i < ops.size) (hu : L.getD i false = false)
    (hl : ∀ k, k < i → L.getD k false = true) : i ∈ Region.ready .any ops L := by
  simp only [Region.ready, List.mem_filter, List.mem_range, Bool.and_eq_true, Bool.not_eq_true']
  have ho : ops[i]? = some ops[i] := by simp [hi]
  refine ⟨hi, ?_, ?_⟩
  · rw [Array.getD_eq_getD_getElem?] at hu ⊢
    have : L[i]? = some L[i] := Array.getElem?_eq_getElem (by omega)
    rw [this] at hu ⊢; exact hu
  · rw [ho]
    simp only [Option.map_some, Option.getD_some]
    apply Array.all_eq_true_iff_forall_mem.2
    intro e he
    by_cases hb : Region.binds .any e = true
    · have := (okTab_at hok ho).1 e (by simpa using he) hb
      simp [hl _ this]
    · simp [hb]

theorem unread_spec {i k : Nat} {o : Oper} (h : unread ops i k = true) (ho : ops[k]? = some o) : ∀ t ∈ looks ops o, dstAt ops i ≠ some t := by
  intro t ht hd
  unfold unread lookAt at h
  rw [hd, ho] at h
  simp at h
  exact h ht
theorem apart_spec {i k : Nat} {o : Oper} (h : apart ops i k = true) (ho : ops[k]? = some o) : (∀ t ∈ looks ops o, dstAt ops i ≠ some t) ∧ ∀ d, dstAt ops k = some d → dstAt ops i ≠ some d := by
  unfold apart at h
  constructor
  · intro t ht hd
    unfold lookAt at h
    rw [hd, ho] at h
    simp at h
    exact h.1 ht
  · intro d hk hd
    rw [hd, hk] at h
    simp at h

theorem okLay_far : ∀ (C : List (Nat × List Nat × List Nat)) (I : List Nat), okLay ops b I C = true → (∀ p ∈ C, p.1 ∉ I) ∧ (∀ p ∈ C, ∀ a ∈ p.2.2, (b.getD a 0).testBit p.1 = true) ∧
    ∀ a ∈ I, ∀ a' ∈ I, (unread ops a' a = true ∨ (b.getD a 0).testBit a' = true) := by
  intro C
  induction C with
  | nil =>
    intro I h
    refine ⟨by simp, by simp, ?_⟩
    intro a ha a' ha'
    simp only [okLay, List.all_eq_true, Bool.or_eq_true] at h
    exact h a ha a' ha'
  | cons p C ih =>
    intro I h
    obtain ⟨c, F, nw⟩ := p
    simp only [okLay, Bool.and_eq_true, List.all_eq_true, Bool.not_eq_true', List.contains_eq_mem, decide_eq_false_iff_not] at h
    obtain ⟨⟨⟨⟨⟨⟨⟨h1, h2⟩, h3⟩, h4⟩, h5⟩, h6⟩, h7⟩, h8⟩ := h
    obtain ⟨k1, k2, k3⟩ := ih _ h8
    refine ⟨?_, ?_, fun a ha a' ha' => k3 a (by simp [ha]) a' (by simp [ha'])⟩
    · intro q hq
      rcases List.mem_cons.1 hq with rfl | hq
      · exact h2
      · exact fun hm => k1 q hq (by simp [hm])
    · intro q hq
      rcases List.mem_cons.1 hq with rfl | hq
      · exact h5
      · exact k2 q hq
end static

/-- What it says, and that it stands there. -/
def FactV (E : Env) (ops : Array Oper) (f : St) (a : Nat) : Prop := ∃ v, Fact E ops f a v ∧ ∀ d, dstAt ops a = some d → f.σ d = v

section
variable {E : Env} {ops : Array Oper} {st : St}

theorem quiet1_spec {o : Oper} {K : A → Prop} (h : quiet1 E ops o K st) : ∃ v, dstOk E o.dst = true ∧ ((wantedA ops o st = some true ∧ Yield E o st v) ∨ (wantedA ops o st = some false ∧ v = .undef ())) ∧ K v := by
  obtain ⟨hd, h⟩ := h
  split at h
  · rename_i hw
    split at h
    · rename_i f args ts hop
      unfold CallQ at h
      split at h
      · rename_i F first cap hf
        split at h
        · rename_i hfl
          obtain ⟨r, h1, h2⟩ := h
          refine ⟨_, hd, .inl ⟨hw, ?_⟩, h2⟩
          unfold Yield
          rw [hop]
          exact ⟨F, first, cap, r, hf, hfl, h1, rfl⟩
        · exact h.elim
      · exact h.elim
    · rename_i hne
      split at h
      · rename_i r hr
        refine ⟨_, hd, .inl ⟨hw, ?_⟩, h⟩
        unfold Yield
        split
        · rename_i hop; exact absurd hop (hne _ _ _)
        · exact ⟨r, hr, rfl⟩
      · exact h.elim
  · rename_i hw
    exact ⟨_, hd, .inr ⟨hw, rfl⟩, h⟩
  · exact h.elim

theorem Fact_congr {f f' : St} {a : Nat} {v : A} (h : ∀ o, ops[a]? = some o → ∀ t ∈ looks ops o, f.σ t = f'.σ t) (hH : f.H = f'.H) (hf : Fact E ops f a v) : Fact E ops f' a v := by
  obtain ⟨o, ho, hd, hc⟩ := hf
  refine ⟨o, ho, hd, ?_⟩
  rw [← wanted_congr (h o ho)]
  exact hc.imp (fun k => ⟨k.1, Yield_congr (h o ho) hH k.2⟩) id

theorem putD_H (dst : Option Tmp) (v : A) (st : St) : (putD dst v st).H = st.H := by
  unfold putD; split <;> rfl

theorem aqi_spec : ∀ (l : List Nat) (K : St → Prop) (st : St), okSeq ops l = true → aqi E ops l K st →
    ∃ f, K f ∧ f.H = st.H ∧ (∀ t, (∀ a ∈ l, dstAt ops a ≠ some t) → st.σ t = f.σ t) ∧ ∀ a ∈ l, FactV E ops f a := by
  intro l
  induction l with
  | nil => intro K st _ h; exact ⟨st, h, rfl, fun _ _ => rfl, by simp⟩
  | cons a l ih =>
    intro K st hok h
    simp only [okSeq, Bool.and_eq_true, List.all_eq_true] at hok
    obtain ⟨⟨hself, hl⟩, hok⟩ := hok
    simp only [aqi] at h
    split at h
    · rename_i o ho
      obtain ⟨v, hd, hv, hK⟩ := quiet1_spec h
      obtain ⟨f, k1, k2, k3, k4⟩ := ih K _ hok hK
      have hda : dstAt ops a = o.dst := by unfold dstAt; rw [ho]; rfl
      refine ⟨f, k1, by rw [k2, putD_H], ?_, ?_⟩
      · intro t ht
        rw [← k3 t fun a' ha' => ht a' (by simp [ha']), putD_σ, if_neg]
        rw [← hda]; exact ht a (by simp)
      · intro a' ha'
        rcases List.mem_cons.1 ha' with rfl | ha'
        · refine ⟨v, ?_, ?_⟩
          · refine Fact_congr (f := st) ?_ (by rw [k2, putD_H]) ⟨o, ho, hd, hv⟩
            intro o' ho' t ht
            rw [← k3 t fun a' ha' => (apart_spec (hl a' ha') ho').1 t ht, putD_σ, if_neg]
            rw [← hda]; exact unread_spec hself ho' t ht
          · intro d hd'
            rw [← k3 d fun a' ha' => (apart_spec (hl a' ha') ho).2 d hd', putD_σ, if_pos (by rw [← hda]; exact hd')]
        · exact k4 a' ha'
    · exact h.elim

theorem facts_spec : ∀ (l : List Nat) (st : St), facts E ops l st → ∀ a ∈ l, FactV E ops st a := by
  intro l
  induction l with
  | nil => intro st _ a ha; simp at ha
  | cons i l ih =>
    intro st h a ha
    simp only [facts] at h
    obtain ⟨h1, h2⟩ := h
    rcases List.mem_cons.1 ha with rfl | ha
    · split at h1
      · rename_i o ho
        obtain ⟨v, hd, hv, hK⟩ := quiet1_spec h1
        refine ⟨v, ⟨o, ho, hd, hv⟩, fun d hd' => ?_⟩
        unfold dstAt at hd'
        rw [ho] at hd'
        simp only [Option.bind_some] at hd'
        unfold same1 at hK
        rw [hd'] at hK
        exact hK
      · exact h1.elim
    · exact ih st h2 a ha
end

section
variable {E : Env} (hE : E.Ok) {fr : Fr} {ops : Array Oper} {b : List Nat}
include hE

theorem chain_any (hok : okTab ops b = true) {Q : X → St → Prop} :
    ∀ (fuel : Nat) (L : Array Bool) (I : List Nat) (C : List (Nat × List Nat × List Nat)) (s f : St) (g : Ghost) (vs : List (V D)) (Hs : List (Ob D)) (a : Act) (w : World),
      L.size = ops.size → (L.toList.filter (fun x => !x)).length ≤ fuel → Closed ops (fun i => L.getD i false) → okLay ops b I C = true →
      (∀ p ∈ C, L.getD p.1 false = false) → (∀ i, i < ops.size → L.getD i false = false → i ∈ I ∨ ∃ p ∈ C, p.1 = i ∨ i ∈ p.2.2) →
      Agr (fun t => ∃ x ∈ I, L.getD x false = false ∧ dstAt ops x = some t) s f → (∀ x ∈ I, L.getD x false = false → FactV E ops f x) → chk E ops C (Q .normal) f →
      Rel fr g vs Hs w → At fr E.n g.φ s vs Hs a → wpAnyIn (fen fr.rd) 0 E.P .any ops (Snd E fr Q) fuel L a w := by
  have hcount : ∀ (L : Array Bool) (i : Nat), i < L.size → L.getD i false = false → ((L.setIfInBounds i true).toList.filter (fun x => !x)).length + 1 = (L.toList.filter (fun x => !x)).length := by
    intro L i hi hu
    rw [Array.getD_eq_getD_getElem?, Array.getElem?_eq_getElem hi] at hu
    simp only [Option.getD_some] at hu
    have h1 : L.toList = L.toList.take i ++ false :: L.toList.drop (i + 1) := by
      have h2 : L.toList.drop i = false :: L.toList.drop (i + 1) := by
        rw [List.drop_eq_getElem_cons (by simpa using hi)]
        congr 1
      rw [← h2, List.take_append_drop]
    have h3 : (L.setIfInBounds i true).toList = L.toList.take i ++ true :: L.toList.drop (i + 1) := by
      rw [Array.toList_setIfInBounds, List.set_eq_take_append_cons_drop, if_pos (by simpa using hi)]
    rw [h3]
    conv => rhs; rw [h1]
    simp only [List.filter_append, List.filter_cons, List.length_append, Bool.not_true, Bool.not_false, if_true, Bool.false_eq_true, if_false, List.length_cons]
    omega
  -- all listed: done
  have hdone : ∀ (L : Array Bool) (I : List Nat) (C : List (Nat × List Nat × List Nat)) (s f : St) (g : Ghost) (vs : List (V D)) (Hs : List (Ob D)) (a : Act) (w : World), L.size = ops.size → (∀ i, i < ops.size → L.getD i false = true) →
      (∀ p ∈ C, L.getD p.1 false = false) → (∀ p ∈ C, p.1 < ops.size) → (∀ x ∈ I, L.getD x false = false → FactV E ops f x) → Agr (fun t => ∃ x ∈ I, L.getD x false = false ∧ dstAt ops x = some t) s f → chk E ops C (Q .normal) f →
      Rel fr g vs Hs w → At fr E.n g.φ s vs Hs a → Snd E fr Q .normal a w := by
    intro L I C s f g vs Hs a w hs hall hC hCs hF hA hchk hR hAt
    cases C with
    | cons p C => exact absurd (hall p.1 (hCs p (by simp))) (by rw [hC p (by simp)]; simp)
    | nil =>
      have hsf : s = f := by
        obtain ⟨h1, h2⟩ := hA
        cases s; cases f
        simp only at h1 h2
        subst h1
        congr 1
        funext t
        refine h2 t ?_
        rintro ⟨x, hx, hu, hd⟩
        have : x < ops.size := by
          unfold dstAt at hd
          cases hq : ops[x]? with
          | none => rw [hq] at hd; simp at hd
          | some o => exact (Array.getElem?_eq_some_iff.1 hq).1
        rw [hall x this] at hu
        simp at hu
      subst hsf
      exact ⟨.normal, s, g, vs, Hs, rfl, hR, hAt, hchk⟩
  have hin : ∀ {C f}, chk E ops C (Q .normal) f → ∀ p, C.head? = some p → p.1 < ops.size := by
    intro C f h p hp
    cases C with
    | nil => simp at hp
    | cons q C =>
      simp only [List.head?_cons, Option.some.injEq] at hp
      subst hp
      obtain ⟨c, F, nw⟩ := q
      simp only [chk] at h
      split at h
      · rename_i o ho; exact (Array.getElem?_eq_some_iff.1 ho).1
      · exact h.elim
  have hend : ∀ (L : Array Bool) (I : List Nat) (C : List (Nat × List Nat × List Nat)) (s f : St) (g : Ghost) (vs : List (V D)) (Hs : List (Ob D)) (a : Act) (w : World), L.size = ops.size → (∀ i, i < ops.size → L.getD i false = true) →
      (∀ p ∈ C, L.getD p.1 false = false) → (∀ x ∈ I, L.getD x false = false → FactV E ops f x) → Agr (fun t => ∃ x ∈ I, L.getD x false = false ∧ dstAt ops x = some t) s f → chk E ops C (Q .normal) f →
      Rel fr g vs Hs w → At fr E.n g.φ s vs Hs a → Snd E fr Q .normal a w := by
    intro L I C s f g vs Hs a w hs hall hC hF hA hchk hR hAt
    cases C with
    | cons p C => exact absurd (hall p.1 (hin hchk p rfl)) (by rw [hC p (by simp)]; simp)
    | nil => exact hdone L I [] s f g vs Hs a w hs hall hC (by simp) hF hA hchk hR hAt
  intro fuel
  induction fuel with
  | zero =>
    intro L I C s f g vs Hs a w hs hfu hcl hlay hC hcov hA hF hchk hR hAt
    have hall : ∀ i, i < ops.size → L.getD i false = true := by
      intro i hi
      have h0 : L.toList.filter (fun x => !x) = [] := List.eq_nil_of_length_eq_zero (by omega)
      rw [List.filter_eq_nil_iff] at h0
      have := h0 L[i] (by simp)
      rw [Array.getD_eq_getD_getElem?, Array.getElem?_eq_getElem (by omega)]
      simpa using this
    refine ⟨?_, hend L I C s f g vs Hs a w hs hall hC hF hA hchk hR hAt⟩
    refine List.eq_nil_iff_forall_not_mem.2 fun i hi => ?_
    obtain ⟨o, ho, hu, _⟩ := mem_ready hi
    have hlt := (Array.getElem?_eq_some_iff.1 ho).1
    have := hall i hlt
    rw [Array.getD_eq_getD_getElem?, Array.getElem?_eq_getElem (by omega)] at this hu
    simp_all
  | succ fuel ih =>
    intro L I C s f g vs Hs a w hs hfu hcl hlay hC hcov hA hF hchk hR hAt
    obtain ⟨hfar1, hfar2, hfar3⟩ := okLay_far C I hlay
    refine ⟨fun hr => ?_, fun i hi => ?_⟩
    · by_cases hall : ∀ i, i < ops.size → L.getD i false = true
      · exact hend L I C s f g vs Hs a w hs hall hC hF hA hchk hR hAt
      · exfalso
        have hex : ∃ i, i < ops.size ∧ L.getD i false = false := by
          simp only [Classical.not_forall] at hall
          obtain ⟨i, hi, h⟩ := hall
          exact ⟨i, hi, by simpa using h⟩
        obtain ⟨i0, hi0, hu0⟩ := hex
        have key : ∀ n, (∃ i, i ≤ n ∧ L.getD i false = false) → ∃ i, i ≤ n ∧ L.getD i false = false ∧ ∀ k, k < i → L.getD k false = true := by
          intro n
          induction n with
          | zero => rintro ⟨i, hi, h⟩; exact ⟨i, hi, h, fun k hk => by omega⟩
          | succ n ihn =>
            rintro ⟨i, hi, h⟩
            by_cases hex : ∃ i, i ≤ n ∧ L.getD i false = false
            · obtain ⟨j, hj, h1, h2⟩ := ihn hex; exact ⟨j, by omega, h1, h2⟩
            · refine ⟨i, hi, h, fun k hk => ?_⟩
              cases hkv : L.getD k false with
              | true => rfl
              | false => exact absurd ⟨k, by omega, hkv⟩ hex
        obtain ⟨i, hi, h1, h2⟩ := key i0 ⟨i0, Nat.le_refl _, hu0⟩
        have := ready_least' hok hs (by omega : i < ops.size) h1 h2
        rw [hr] at this; simp at this
    · obtain ⟨o, ho, hu, he⟩ := mem_ready hi
      have hlt := (Array.getElem?_eq_some_iff.1 ho).1
      have hu' : L.getD i false = false := by
        rw [Array.getD_eq_getD_getElem?, Array.getElem?_eq_getElem (by omega)] at hu ⊢; exact hu
      have hpre := closed_pre' hok hcl i o ho he
      have hdo : dstAt ops i = o.dst := by unfold dstAt; rw [ho]; rfl
      have hfuel : ((L.setIfInBounds i true).toList.filter (fun x => !x)).length ≤ fuel := by have := hcount L i (by omega) hu'; omega
      have hset : ∀ k, (L.setIfInBounds i true).getD k false = if k = i then true else L.getD k false := fun k => getD_setB (by omega)
      by_cases hiI : i ∈ I
      · -- a quiet operation
        obtain ⟨v, hfact, hval⟩ := hF i hiI hu'
        have hag : ∀ o', ops[i]? = some o' → ∀ t ∈ looks ops o', f.σ t = s.σ t := by
          intro o' ho' t ht
          refine (hA.2 t ?_).symm
          rintro ⟨x, hx, hux, hdx⟩
          rcases hfar3 i hiI x hx with h | h
          · exact unread_spec h ho' t ht hdx
          · rw [hpre x h] at hux; simp at hux
        refine fact_sound hE (Fact_congr hag hA.1.symm hfact) hR hAt fun g1 vs1 Hs1 a1 w1 hR1 hA1 => ?_
        refine ih _ I C (putD o.dst v s) f g1 vs1 Hs1 a1 w1 (by simpa using hs) hfuel (closed_set hs ho hcl he) hlay ?_ ?_ ?_ ?_ hchk hR1 ?_
        · intro p hp
          rw [hset, if_neg (fun e : p.1 = i => hfar1 p hp (e ▸ hiI))]
          exact hC p hp
        · intro k hk hku
          rw [hset] at hku
          split at hku
          · simp at hku
          · exact hcov k hk hku
        · refine ⟨by rw [putD_H]; exact hA.1, fun t ht => ?_⟩
          rw [putD_σ]
          by_cases hd : o.dst = some t
          · rw [if_pos hd, hval t (by rw [hdo]; exact hd)]
          · rw [if_neg hd]
            refine hA.2 t ?_
            rintro ⟨x, hx, hux, hdx⟩
            refine ht ⟨x, hx, ?_, hdx⟩
            rw [hset, if_neg]
            · exact hux
            · rintro rfl; rw [hdo] at hdx; exact hd hdx
        · intro x hx hux
          rw [hset] at hux
          split at hux
          · simp at hux
          · exact hF x hx hux
        · rw [ho] at hA1; exact hA1
      · -- the next of the chain
        rcases hcov i hlt hu' with h | ⟨p, hp, hpi⟩
        · exact absurd h hiI
        have hhead : ∃ F nw r, C = (i, F, nw) :: r := by
          rcases hpi with rfl | hpn
          · cases C with
            | nil => simp at hp
            | cons q C =>
              obtain ⟨c, F, nw⟩ := q
              rcases List.mem_cons.1 hp with rfl | hp
              · exact ⟨F, nw, C, rfl⟩
              · exfalso
                simp only [okLay, Bool.and_eq_true, List.all_eq_true] at hlay
                have := hpre c (hlay.1.1.1.1.2 p hp)
                rw [hC (c, F, nw) (by simp)] at this
                simp at this
          · have := hpre p.1 (hfar2 p hp i hpn)
            rw [hC p hp] at this
            simp at this
        obtain ⟨F, nw, r, rfl⟩ := hhead
        simp only [okLay, Bool.and_eq_true, List.all_eq_true, Bool.not_eq_true', Bool.or_eq_true, List.contains_eq_mem, decide_eq_false_iff_not, decide_eq_true_eq] at hlay
        obtain ⟨⟨⟨⟨⟨⟨⟨k1, k2⟩, k3⟩, k4⟩, k5⟩, k6⟩, k7⟩, k8⟩ := hlay
        simp only [chk] at hchk
        rw [ho] at hchk
        simp only at hchk
        have hfloat : ∀ x ∈ I, L.getD x false = false → x ∈ F ∧ unread ops x i = true := by
          intro x hx hux
          rcases k1 x hx with h | h
          · rw [hpre x h] at hux; simp at hux
          · exact h
        have hone := awl_frame (E := E) hA (o := o) (ops := ops) (by
          rintro t ht ⟨x, hx, hux, hdx⟩
          exact unread_spec (hfloat x hx hux).2 ho t ht hdx) hchk
        refine one_sound hE ho hone hR hAt fun s1 g1 vs1 Hs1 a1 w1 hK hR1 hA1 => ?_
        obtain ⟨f1, ⟨hfacts, haq⟩, hagr⟩ := hK
        obtain ⟨f2, hchk2, e1, e2, e3⟩ := aqi_spec nw _ f1 k6 haq
        have hunl : ∀ x ∈ nw, L.getD x false = false := by
          intro x hx
          cases hxv : L.getD x false with
          | false => rfl
          | true =>
            exfalso
            have hlx : x < ops.size := by
              rcases Nat.lt_or_ge x ops.size with h | h
              · exact h
              · rw [Array.getD_eq_getD_getElem?, Array.getElem?_eq_none (by omega)] at hxv; simp at hxv
            have hget : ops[x]? = some ops[x] := by simp [hlx]
            have := closed_pre' hok hcl x ops[x] hget (fun e hem hb => hcl x _ hget hxv e hem hb) i (k5 x hx)
            rw [hu'] at this; simp at this
        have hkeep : ∀ x ∈ F, ∀ o', ops[x]? = some o' → (∀ t ∈ looks ops o', f1.σ t = f2.σ t) ∧ ∀ d, dstAt ops x = some d → f1.σ d = f2.σ d := by
          intro x hx o' ho'
          exact ⟨fun t ht => e2 t fun y hy => (apart_spec (k7 x hx y hy) ho').1 t ht, fun d hd => e2 d fun y hy => (apart_spec (k7 x hx y hy) ho').2 d hd⟩
        refine ih _ (I ++ nw) r s1 f2 g1 vs1 Hs1 a1 w1 (by simpa using hs) hfuel (closed_set hs ho hcl he) k8 ?_ ?_ ?_ ?_ hchk2 hR1 hA1
        · intro p hp
          rw [hset]
          by_cases hpi : p.1 = i
          · exfalso
            have := hpre i (by rw [← hpi]; exact hpi ▸ (k4 p hp))
            rw [hu'] at this; simp at this
          · rw [if_neg hpi]; exact hC p (by simp [hp])
        · intro k hk hku
          rw [hset] at hku
          split at hku
          · simp at hku
          · rename_i hki
            rcases hcov k hk hku with h | ⟨p, hp, h⟩
            · exact .inl (by simp [h])
            · rcases List.mem_cons.1 hp with rfl | hp
              · rcases h with h | h
                · exact absurd h.symm hki
                · exact .inl (by simp [h])
              · exact .inr ⟨p, hp, h⟩
        · refine ⟨by rw [hagr.1, e1], fun t ht => ?_⟩
          rw [hagr.2 t, e2 t]
          · intro x hx hdx
            refine ht ⟨x, by simp [hx], ?_, hdx⟩
            rw [hset, if_neg (fun e : x = i => k3 (e ▸ hx))]
            exact hunl x hx
          · rintro ⟨x, hx, hux, hdx⟩
            refine ht ⟨x, by simp [hx], ?_, hdx⟩
            rw [hset, if_neg (fun e : x = i => k2 (e ▸ hx))]
            exact hux
        · intro x hx hux
          rw [hset] at hux
          split at hux
          · simp at hux
          · rcases List.mem_append.1 hx with hx | hx
            · have hxF := (hfloat x hx hux).1
              obtain ⟨v, hv, hd⟩ := facts_spec F f1 hfacts x hxF
              have hv2 := hv
              obtain ⟨o', ho', _⟩ := hv2
              obtain ⟨m1, m2⟩ := hkeep x hxF o' ho'
              refine ⟨v, Fact_congr (fun o2 ho2 t ht => ?_) e1.symm hv, fun d hd' => by rw [← m2 d hd']; exact hd d hd'⟩
              rw [ho'] at ho2
              simp only [Option.some.injEq] at ho2
              subst ho2
              exact m1 t ht
            · exact e3 x hx
end

/-- A statement whose order is open: the quiet operations I, then the chain C. -/
theorem AW.chain {E : Env} (hE : E.Ok) {id : Nat} {l : List Oper} {Q : X → St → Prop} {st : St} (b : List Nat) (I : List Nat) (C : List (Nat × List Nat × List Nat)) (hmx : E.P.follows .mixedOrders = true)
    (hok : okChain l.toArray b I C = true) (h : aqi E l.toArray I (fun f => chk E l.toArray C (Q .normal) f) st) : AW E (.region id l.toArray true) Q st := by
  intro fr g vs Hs a w _ hR hA
  refine Code.wpIn_mono Snd.snx (wpIn_region_any hmx ?_)
  simp only [okChain, Bool.and_eq_true, List.all_eq_true, List.mem_range, Bool.or_eq_true, List.any_eq_true, beq_iff_eq, List.contains_eq_mem, decide_eq_true_eq] at hok
  obtain ⟨⟨⟨h1, h2⟩, h3⟩, h4⟩ := hok
  obtain ⟨f, k1, k2, k3, k4⟩ := aqi_spec I _ st h2 h
  have hnone : ∀ i, (Array.replicate l.toArray.size false).getD i false = false := by
    intro i
    rw [Array.getD_eq_getD_getElem?, Array.getElem?_replicate]
    split <;> rfl
  refine chain_any hE h1 l.toArray.size _ I C st f g vs Hs a { w with drawn := w.drawn + 1 } (by simp) (by simpa using List.length_filter_le _ _) ?_ h3 (fun p _ => hnone _) (fun i hi _ => h4 i hi) ?_ (fun x hx _ => k4 x hx) k1 (hR.drew _) hA
  · intro i o ho hL
    simp only [hnone] at hL; simp at hL
  · refine ⟨k2.symm, fun t ht => k3 t fun x hx hd => ht ⟨x, hx, hnone x, hd⟩⟩
end Go.Ab
end
