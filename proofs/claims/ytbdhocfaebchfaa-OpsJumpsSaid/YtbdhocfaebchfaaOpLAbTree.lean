/- Abstract values and rules for them, proved sound over the model. -/
import Derived.Test.YtbdhocfaebchfaaOpLAbSet
set_option linter.all false
set_option linter.unusedSimpArgs false
set_option linter.unusedVariables false
set_option linter.unnecessarySimpa false
section
/- A statement whose order is open, with heavy operations that may come in more than one order: a tree of orders. -/
namespace Go.Ab
open V
variable [Glob]
set_option linter.unusedSimpArgs false
set_option linter.unusedVariables false
set_option linter.unusedSectionVars false

/-- The orders of the heavy operations: 'alt c F nw sub rest': c comes first, and then sub; or else one of rest. -/
inductive Tr where
  | leaf
  | alt (c : Nat) (F nw : List Nat) (sub rest : Tr)

def chkT (E : Env) (ops : Array Oper) : Tr → Bool → (St → Prop) → St → Prop
  | .leaf, true, Q, f => Q f
  | .leaf, false, _, _ => True
  | .alt c F nw sub rest, _, Q, f => (match ops[c]? with
    | some o => awl E ops [o] (fun f1 => facts E ops F f1 ∧ aqi E ops nw (fun f2 => chkT E ops sub true Q f2) f1) f
    | none => False) ∧ chkT E ops rest false Q f

def heads : Tr → List Nat
  | .leaf => []
  | .alt c _ _ _ r => c :: heads r

def floatOk (ops : Array Oper) (b : List Nat) (I : List Nat) : Bool := I.all fun a => I.all fun a' => unread ops a' a || (b.getD a 0).testBit a'
def topOk (ops : Array Oper) (b : List Nat) (I R H : List Nat) : Bool :=
  floatOk ops b I && R.all (fun h => R.any (fun q => (b.getD h 0).testBit q) || H.contains h) && R.all (fun h => !I.contains h && decide (h < ops.size))
def okTr (ops : Array Oper) (b : List Nat) : Tr → Bool → List Nat → List Nat → List Nat → Bool
  | .leaf, true, I, R, _ => R.isEmpty && floatOk ops b I
  | .leaf, false, _, _, _ => true
  | .alt c F nw sub rest, top, I, R, N =>
    (!top || topOk ops b I R (c :: heads rest)) && R.contains c && (I.all fun a => (b.getD c 0).testBit a || (F.contains a && unread ops a c)) && !nw.contains c && (nw.all fun a => (b.getD a 0).testBit c) &&
    okSeq ops nw && F.all (fun a => nw.all fun a' => apart ops a' a) &&
    (List.range ops.size).all (fun i => i == c || N.contains i || (I ++ nw).contains i || (R.filter (fun x => x != c)).contains i || (R.filter (fun x => x != c)).any (fun q => (b.getD i 0).testBit q)) &&
    okTr ops b sub true (I ++ nw) (R.filter (fun x => x != c)) (c :: N) && okTr ops b rest false I R N
def okTree (ops : Array Oper) (b : List Nat) (I R : List Nat) (t : Tr) : Bool :=
  okTab ops b && okSeq ops I && okTr ops b t true I R [] && (List.range ops.size).all fun i => I.contains i || R.contains i || R.any (fun q => (b.getD i 0).testBit q)

section
variable {ops : Array Oper} {b : List Nat}
theorem okTr_top : ∀ {t : Tr} {I R N : List Nat}, okTr ops b t true I R N = true →
    (∀ a ∈ I, ∀ a' ∈ I, (unread ops a' a = true ∨ (b.getD a 0).testBit a' = true)) ∧ (∀ h ∈ R, (∃ q ∈ R, (b.getD h 0).testBit q = true) ∨ h ∈ heads t) ∧ (∀ h ∈ R, h ∉ I ∧ h < ops.size) := by
  intro t I R N h
  cases t with
  | leaf =>
    simp only [okTr, floatOk, Bool.and_eq_true, List.isEmpty_iff, List.all_eq_true, Bool.or_eq_true] at h
    obtain ⟨rfl, h⟩ := h
    exact ⟨h, by simp, by simp⟩
  | alt c F nw sub rest =>
    simp only [okTr, topOk, floatOk, Bool.and_eq_true, Bool.not_true, Bool.false_or, List.all_eq_true, Bool.or_eq_true, List.any_eq_true, List.contains_eq_mem, decide_eq_true_eq, Bool.not_eq_true', decide_eq_false_iff_not] at h
    obtain ⟨⟨⟨⟨⟨⟨⟨⟨⟨⟨⟨h1, h2⟩, h3⟩, _⟩, _⟩, _⟩, _⟩, _⟩, _⟩, _⟩, _⟩, _⟩ := h
    exact ⟨h1, h2, h3⟩
theorem okTr_alt {E : Env} {Q : St → Prop} {f : St} {i : Nat} : ∀ {t : Tr} {top : Bool} {I R N : List Nat}, okTr ops b t top I R N = true → chkT E ops t top Q f → i ∈ heads t →
    ∃ F nw sub, (∀ x ∈ I, ((b.getD i 0).testBit x = true ∨ (x ∈ F ∧ unread ops x i = true))) ∧ i ∉ nw ∧ (∀ a ∈ nw, (b.getD a 0).testBit i = true) ∧ okSeq ops nw = true ∧ (∀ a ∈ F, ∀ a' ∈ nw, apart ops a' a = true) ∧
      (∀ k, k < ops.size → k ≠ i → k ∉ N → k ∈ I ++ nw ∨ k ∈ R.filter (fun x => x != i) ∨ ∃ q ∈ R.filter (fun x => x != i), (b.getD k 0).testBit q = true) ∧
      okTr ops b sub true (I ++ nw) (R.filter (fun x => x != i)) (i :: N) = true ∧
      (match ops[i]? with | some o => awl E ops [o] (fun f1 => facts E ops F f1 ∧ aqi E ops nw (fun f2 => chkT E ops sub true Q f2) f1) f | none => False) := by
  intro t
  induction t with
  | leaf => intro top I R N h hc hi; simp [heads] at hi
  | alt c F nw sub rest _ ih =>
    intro top I R N h hc hi
    have h' := h
    simp only [okTr, Bool.and_eq_true] at h
    obtain ⟨⟨⟨⟨⟨⟨⟨⟨⟨_, h1⟩, h2⟩, h3⟩, h4⟩, h5⟩, h6⟩, h7⟩, h8⟩, h9⟩ := h
    simp only [chkT] at hc
    rcases List.mem_cons.1 hi with rfl | hi
    · refine ⟨F, nw, sub, ?_, ?_, ?_, h5, ?_, ?_, h8, hc.1⟩
      · simpa only [List.all_eq_true, Bool.or_eq_true, Bool.and_eq_true, List.contains_eq_mem, decide_eq_true_eq] using h2
      · simpa using h3
      · simpa only [List.all_eq_true] using h4
      · simpa only [List.all_eq_true] using h6
      · intro k hk hki hkN
        simp only [List.all_eq_true, List.mem_range, Bool.or_eq_true, List.contains_eq_mem, decide_eq_true_eq, List.any_eq_true, beq_iff_eq] at h7
        rcases h7 k hk with (((h | h) | h) | h) | h
        · exact absurd h hki
        · exact absurd h hkN
        · exact .inl h
        · exact .inr (.inl h)
        · exact .inr (.inr h)
    · exact ih h9 hc.2 hi
end

section
variable {E : Env} (hE : E.Ok) {fr : Fr} {ops : Array Oper} {b : List Nat}
include hE

theorem tree_any (hok : okTab ops b = true) {Q : X → St → Prop} :
    ∀ (fuel : Nat) (L : Array Bool) (I R N : List Nat) (t : Tr) (s f : St) (g : Ghost) (vs : List (V D)) (Hs : List (Ob D)) (a : Act) (w : World),
      L.size = ops.size → (L.toList.filter (fun x => !x)).length ≤ fuel → Closed ops (fun i => L.getD i false) → okTr ops b t true I R N = true → (∀ p ∈ N, L.getD p false = true) →
      (∀ p ∈ R, L.getD p false = false) → (∀ i, i < ops.size → L.getD i false = false → i ∈ I ∨ i ∈ R ∨ ∃ q ∈ R, (b.getD i 0).testBit q = true) →
      Agr (fun t => ∃ x ∈ I, L.getD x false = false ∧ dstAt ops x = some t) s f → (∀ x ∈ I, L.getD x false = false → FactV E ops f x) → chkT E ops t true (Q .normal) f →
      Rel fr g vs Hs w → At fr E.n g.φ s vs Hs a → wpAnyIn (fen fr.rd) 0 E.P .any ops (Snd E fr Q) fuel L a w := by
  have hcount : ∀ (L : Array Bool) (i : Nat), i < L.size → L.getD i false = false → ((L.setIfInBounds i true).toList.filter (fun x => !x)).length + 1 = (L.toList.filter (fun x => !x)).length := by
    intro L i hi hu
    rw [Array.getD_eq_getD_getElem?, Array.getElem?_eq_getElem hi] at hu
    simp only [Option.getD_some] at hu
    have h1 : L.toList = L.toList.take i ++ false :: L.toList.drop (i + 1) := by
      have h2 : L.toList.drop i = false :: L.toList.drop (i + 1) := by
        rw [List.drop_eq_getElem_cons (by simpa using hi)]
        congr 1
      rw [← h2, List.take_append_drop]
    have h3 : (L.setIfInBounds i true).toList = L.toList.take i ++ true :: L.toList.drop (i + 1) := by
      rw [Array.toList_setIfInBounds, List.set_eq_take_append_cons_drop, if_pos (by simpa using hi)]
    rw [h3]
    conv => rhs; rw [h1]
    simp only [List.filter_append, List.filter_cons, List.length_append, Bool.not_true, Bool.not_false, if_true, Bool.false_eq_true, if_false, List.length_cons]
    omega
  have hend : ∀ (L : Array Bool) (I R N : List Nat) (t : Tr) (s f : St) (g : Ghost) (vs : List (V D)) (Hs : List (Ob D)) (a : Act) (w : World), L.size = ops.size → (∀ i, i < ops.size → L.getD i false = true) → okTr ops b t true I R N = true →
      (∀ p ∈ R, L.getD p false = false) → (∀ x ∈ I, L.getD x false = false → FactV E ops f x) → Agr (fun t => ∃ x ∈ I, L.getD x false = false ∧ dstAt ops x = some t) s f → chkT E ops t true (Q .normal) f →
      Rel fr g vs Hs w → At fr E.n g.φ s vs Hs a → Snd E fr Q .normal a w := by
    intro L I R N t s f g vs Hs a w hs hall hok' hC hF hA hchk hR hAt
    obtain ⟨_, _, htop⟩ := okTr_top hok'
    have hR0 : R = [] := by
      cases R with
      | nil => rfl
      | cons p R => have := hall p (htop p (by simp)).2; rw [hC p (by simp)] at this; simp at this
    subst hR0
    cases t with
    | alt c F nw sub rest => simp [okTr] at hok'
    | leaf =>
      have hsf : s = f := by
        obtain ⟨h1, h2⟩ := hA
        cases s; cases f
        simp only at h1 h2
        subst h1
        congr 1
        funext t
        refine h2 t ?_
        rintro ⟨x, hx, hu, hd⟩
        have : x < ops.size := by
          unfold dstAt at hd
          cases hq : ops[x]? with
          | none => rw [hq] at hd; simp at hd
          | some o => exact (Array.getElem?_eq_some_iff.1 hq).1
        rw [hall x this] at hu
        simp at hu
      subst hsf
      exact ⟨.normal, s, g, vs, Hs, rfl, hR, hAt, hchk⟩
  intro fuel
  induction fuel with
  | zero =>
    intro L I R N t s f g vs Hs a w hs hfu hcl hlay hNL hC hcov hA hF hchk hR hAt
    have hall : ∀ i, i < ops.size → L.getD i false = true := by
      intro i hi
      have h0 : L.toList.filter (fun x => !x) = [] := List.eq_nil_of_length_eq_zero (by omega)
      rw [List.filter_eq_nil_iff] at h0
      have := h0 L[i] (by simp)
      rw [Array.getD_eq_getD_getElem?, Array.getElem?_eq_getElem (by omega)]
      simpa using this
    refine ⟨?_, hend L I R N t s f g vs Hs a w hs hall hlay hC hF hA hchk hR hAt⟩
    refine List.eq_nil_iff_forall_not_mem.2 fun i hi => ?_
    obtain ⟨o, ho, hu, _⟩ := mem_ready hi
    have hlt := (Array.getElem?_eq_some_iff.1 ho).1
    have := hall i hlt
    rw [Array.getD_eq_getD_getElem?, Array.getElem?_eq_getElem (by omega)] at this hu
    simp_all
  | succ fuel ih =>
    intro L I R N t s f g vs Hs a w hs hfu hcl hlay hNL hC hcov hA hF hchk hR hAt
    obtain ⟨hfar3, hheads, hRI⟩ := okTr_top hlay
    refine ⟨fun hr => ?_, fun i hi => ?_⟩
    · by_cases hall : ∀ i, i < ops.size → L.getD i false = true
      · exact hend L I R N t s f g vs Hs a w hs hall hlay hC hF hA hchk hR hAt
      · exfalso
        have hex : ∃ i, i < ops.size ∧ L.getD i false = false := by
          simp only [Classical.not_forall] at hall
          obtain ⟨i, hi, h⟩ := hall
          exact ⟨i, hi, by simpa using h⟩
        obtain ⟨i0, hi0, hu0⟩ := hex
        have key : ∀ n, (∃ i, i ≤ n ∧ L.getD i false = false) → ∃ i, i ≤ n ∧ L.getD i false = false ∧ ∀ k, k < i → L.getD k false = true := by
          intro n
          induction n with
          | zero => rintro ⟨i, hi, h⟩; exact ⟨i, hi, h, fun k hk => by omega⟩
          | succ n ihn =>
            rintro ⟨i, hi, h⟩
            by_cases hex : ∃ i, i ≤ n ∧ L.getD i false = false
            · obtain ⟨j, hj, h1, h2⟩ := ihn hex; exact ⟨j, by omega, h1, h2⟩
            · refine ⟨i, hi, h, fun k hk => ?_⟩
              cases hkv : L.getD k false with
              | true => rfl
              | false => exact absurd ⟨k, by omega, hkv⟩ hex
        obtain ⟨i, hi, h1, h2⟩ := key i0 ⟨i0, Nat.le_refl _, hu0⟩
        have := ready_least' hok hs (by omega : i < ops.size) h1 h2
        rw [hr] at this; simp at this
    · obtain ⟨o, ho, hu, he⟩ := mem_ready hi
      have hlt := (Array.getElem?_eq_some_iff.1 ho).1
      have hu' : L.getD i false = false := by
        rw [Array.getD_eq_getD_getElem?, Array.getElem?_eq_getElem (by omega)] at hu ⊢; exact hu
      have hpre := closed_pre' hok hcl i o ho he
      have hdo : dstAt ops i = o.dst := by unfold dstAt; rw [ho]; rfl
      have hfuel : ((L.setIfInBounds i true).toList.filter (fun x => !x)).length ≤ fuel := by have := hcount L i (by omega) hu'; omega
      have hset : ∀ k, (L.setIfInBounds i true).getD k false = if k = i then true else L.getD k false := fun k => getD_setB (by omega)
      by_cases hiI : i ∈ I
      · -- a quiet operation
        obtain ⟨v, hfact, hval⟩ := hF i hiI hu'
        have hag : ∀ o', ops[i]? = some o' → ∀ t ∈ looks ops o', f.σ t = s.σ t := by
          intro o' ho' t ht
          refine (hA.2 t ?_).symm
          rintro ⟨x, hx, hux, hdx⟩
          rcases hfar3 i hiI x hx with h | h
          · exact unread_spec h ho' t ht hdx
          · rw [hpre x h] at hux; simp at hux
        refine fact_sound hE (Fact_congr hag hA.1.symm hfact) hR hAt fun g1 vs1 Hs1 a1 w1 hR1 hA1 => ?_
        refine ih _ I R N t (putD o.dst v s) f g1 vs1 Hs1 a1 w1 (by simpa using hs) hfuel (closed_set hs ho hcl he) hlay (fun p hp => by rw [hset]; split; rfl; exact hNL p hp) ?_ ?_ ?_ ?_ hchk hR1 ?_
        · intro p hp
          rw [hset, if_neg (fun e : p = i => (hRI p hp).1 (e ▸ hiI))]
          exact hC p hp
        · intro k hk hku
          rw [hset] at hku
          split at hku
          · simp at hku
          · exact hcov k hk hku
        · refine ⟨by rw [putD_H]; exact hA.1, fun t ht => ?_⟩
          rw [putD_σ]
          by_cases hd : o.dst = some t
          · rw [if_pos hd, hval t (by rw [hdo]; exact hd)]
          · rw [if_neg hd]
            refine hA.2 t ?_
            rintro ⟨x, hx, hux, hdx⟩
            refine ht ⟨x, hx, ?_, hdx⟩
            rw [hset, if_neg]
            · exact hux
            · rintro rfl; rw [hdo] at hdx; exact hd hdx
        · intro x hx hux
          rw [hset] at hux
          split at hux
          · simp at hux
          · exact hF x hx hux
        · rw [ho] at hA1; exact hA1
      · -- the next of the chain
        have hnp : ¬ ∃ q ∈ R, (b.getD i 0).testBit q = true := by
          rintro ⟨q, hq, hb⟩
          have := hpre q hb
          rw [hC q hq] at this; simp at this
        have hiR : i ∈ R := by
          rcases hcov i hlt hu' with h | h | h
          · exact absurd h hiI
          · exact h
          · exact absurd h hnp
        have hih : i ∈ heads t := (hheads i hiR).resolve_left hnp
        obtain ⟨F, nw, sub, k1, k3, k5, k6, k7, kcov, k8, hchk⟩ := okTr_alt hlay hchk hih
        rw [ho] at hchk
        simp only at hchk
        have hfloat : ∀ x ∈ I, L.getD x false = false → x ∈ F ∧ unread ops x i = true := by
          intro x hx hux
          rcases k1 x hx with h | h
          · rw [hpre x h] at hux; simp at hux
          · exact h
        have hone := awl_frame (E := E) hA (o := o) (ops := ops) (by
          rintro t ht ⟨x, hx, hux, hdx⟩
          exact unread_spec (hfloat x hx hux).2 ho t ht hdx) hchk
        refine one_sound hE ho hone hR hAt fun s1 g1 vs1 Hs1 a1 w1 hK hR1 hA1 => ?_
        obtain ⟨f1, ⟨hfacts, haq⟩, hagr⟩ := hK
        obtain ⟨f2, hchk2, e1, e2, e3⟩ := aqi_spec nw _ f1 k6 haq
        have hunl : ∀ x ∈ nw, L.getD x false = false := by
          intro x hx
          cases hxv : L.getD x false with
          | false => rfl
          | true =>
            exfalso
            have hlx : x < ops.size := by
              rcases Nat.lt_or_ge x ops.size with h | h
              · exact h
              · rw [Array.getD_eq_getD_getElem?, Array.getElem?_eq_none (by omega)] at hxv; simp at hxv
            have hget : ops[x]? = some ops[x] := by simp [hlx]
            have := closed_pre' hok hcl x ops[x] hget (fun e hem hb => hcl x _ hget hxv e hem hb) i (k5 x hx)
            rw [hu'] at this; simp at this
        have hkeep : ∀ x ∈ F, ∀ o', ops[x]? = some o' → (∀ t ∈ looks ops o', f1.σ t = f2.σ t) ∧ ∀ d, dstAt ops x = some d → f1.σ d = f2.σ d := by
          intro x hx o' ho'
          exact ⟨fun t ht => e2 t fun y hy => (apart_spec (k7 x hx y hy) ho').1 t ht, fun d hd => e2 d fun y hy => (apart_spec (k7 x hx y hy) ho').2 d hd⟩
        refine ih _ (I ++ nw) (R.filter (fun x => x != i)) (i :: N) sub s1 f2 g1 vs1 Hs1 a1 w1 (by simpa using hs) hfuel (closed_set hs ho hcl he) k8 (fun p hp => by
            rw [hset]; split
            · rfl
            · rename_i hne; exact hNL p ((List.mem_cons.1 hp).resolve_left hne)) ?_ ?_ ?_ ?_ hchk2 hR1 hA1
        · intro p hp
          simp only [List.mem_filter, bne_iff_ne, ne_eq] at hp
          rw [hset, if_neg hp.2]; exact hC p hp.1
        · intro k hk hku
          refine kcov k hk ?_ ?_
          · rintro rfl
            rw [hset, if_pos rfl] at hku; cases hku
          · intro hkN
            rw [hset] at hku
            split at hku
            · cases hku
            · rw [hNL k hkN] at hku; cases hku
        · refine ⟨by rw [hagr.1, e1], fun t ht => ?_⟩
          rw [hagr.2 t, e2 t]
          · intro x hx hdx
            refine ht ⟨x, by simp [hx], ?_, hdx⟩
            rw [hset, if_neg (fun e : x = i => k3 (e ▸ hx))]
            exact hunl x hx
          · rintro ⟨x, hx, hux, hdx⟩
            refine ht ⟨x, by simp [hx], ?_, hdx⟩
            rw [hset, if_neg (fun e : x = i => hiI (e ▸ hx))]
            exact hux
        · intro x hx hux
          rw [hset] at hux
          split at hux
          · simp at hux
          · rcases List.mem_append.1 hx with hx | hx
            · have hxF := (hfloat x hx hux).1
              obtain ⟨v, hv, hd⟩ := facts_spec F f1 hfacts x hxF
              have hv2 := hv
              obtain ⟨o', ho', _⟩ := hv2
              obtain ⟨m1, m2⟩ := hkeep x hxF o' ho'
              refine ⟨v, Fact_congr (fun o2 ho2 t ht => ?_) e1.symm hv, fun d hd' => by rw [← m2 d hd']; exact hd d hd'⟩
              rw [ho'] at ho2
              simp only [Option.some.injEq] at ho2
              subst ho2
              exact m1 t ht
            · exact e3 x hx
end

/-- A statement whose order is open: the quiet operations I, then the heavy ones R, in whatever order the tree has. -/
theorem AW.tree {E : Env} (hE : E.Ok) {id : Nat} {l : List Oper} {Q : X → St → Prop} {st : St} (b : List Nat) (I R : List Nat) (t : Tr) (hmx : E.P.follows .mixedOrders = true)
    (hok : okTree l.toArray b I R t = true) (h : aqi E l.toArray I (fun f => chkT E l.toArray t true (Q .normal) f) st) : AW E (.region id l.toArray true) Q st := by
  intro fr g vs Hs a w _ hR hA
  refine Code.wpIn_mono Snd.snx (wpIn_region_any hmx ?_)
  simp only [okTree, Bool.and_eq_true, List.all_eq_true, List.mem_range, Bool.or_eq_true, List.any_eq_true, List.contains_eq_mem, decide_eq_true_eq] at hok
  obtain ⟨⟨⟨h1, h2⟩, h3⟩, h4⟩ := hok
  obtain ⟨f, k1, k2, k3, k4⟩ := aqi_spec I _ st h2 h
  have hnone : ∀ i, (Array.replicate l.toArray.size false).getD i false = false := by
    intro i
    rw [Array.getD_eq_getD_getElem?, Array.getElem?_replicate]
    split <;> rfl
  refine tree_any hE h1 l.toArray.size _ I R [] t st f g vs Hs a { w with drawn := w.drawn + 1 } (by simp) (by simpa using List.length_filter_le _ _) ?_ h3 (by simp) (fun p _ => hnone _) (fun i hi _ => by
    rcases h4 i hi with (h | h) | h
    · exact .inl h
    · exact .inr (.inl h)
    · exact .inr (.inr h)) ?_ (fun x hx _ => k4 x hx) k1 (hR.drew _) hA
  · intro i o ho hL
    simp only [hnone] at hL; simp at hL
  · refine ⟨k2.symm, fun t ht => k3 t fun x hx hd => ht ⟨x, hx, hnone x, hd⟩⟩

@[congr] theorem chkT_cg {E : Env} {ops : Array Oper} {tr : Tr} {top : Bool} {Q : St → Prop} {s t : St} {dm : Prop} (dd : Dum = dm) (h : Idw s = t) : chkT E ops tr top Q s = chkT E ops tr top Q t := by rw [Idw_eq] at h; rw [h]
theorem chkT_leaf {E : Env} {ops : Array Oper} {Q : St → Prop} {f : St} : chkT E ops .leaf true Q f = Q f := rfl
theorem chkT_none {E : Env} {ops : Array Oper} {Q : St → Prop} {f : St} : chkT E ops .leaf false Q f = True := rfl
theorem chkT_alt {E : Env} {ops : Array Oper} {c : Nat} {F nw : List Nat} {sub rest : Tr} {top : Bool} {Q : St → Prop} {f : St} :
    chkT E ops (.alt c F nw sub rest) top Q f = (getK (ops[c]?) (HoldF fun o => awl E ops [o] (fun f1 => facts E ops F f1 ∧ aqi E ops nw (fun f2 => chkT E ops sub true Q f2) f1) f) ∧ chkT E ops rest false Q f) := by
  rw [chkT]; cases ops[c]? <;> rfl
attribute [go_sem] chkT_leaf chkT_none chkT_alt
end Go.Ab
end
