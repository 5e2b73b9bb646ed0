/- Abstract values and rules for them, proved sound over the model. -/
import Derived.Test.YtbdhocfaebchfaaOpLAbAl4
set_option linter.all false
set_option linter.unusedSimpArgs false
set_option linter.unusedVariables false
set_option linter.unnecessarySimpa false
section
/- Arrays of one's own become boxed objects; what is handed back of them becomes slices again. -/
namespace Go.Ab
open V
variable [Glob]
set_option linter.unusedSimpArgs false
set_option linter.unusedVariables false
set_option linter.unusedSectionVars false

theorem flL_flat (xs : List (V D)) : flL (flat xs) = flL xs := by
  induction xs with
  | nil => rfl
  | cons x xs ih => rw [flat_cons, flL_append, fl_cells, ih]; rfl

namespace Rel
variable {fr : Fr} {g : Ghost} {vs us : List (V D)} {H : List (Ob D)} {w : World}

theorem objectify {xs : List (V D)} {d : D} {b : Nat} (h : Rel fr g (.sl xs (some 0) d :: us) H w) (ha : d.a = some (b, 0)) :
    Rel fr ⟨fun i => if i = H.length then b else g.φ i, g.F⟩ (.win (H.length, 0) xs.length d :: us) (H ++ [.cells (flat xs)]) w := by
  let φ : Nat → Nat := fun i => if i = H.length then b else g.φ i
  have hφ : ∀ i, i < H.length → φ i = g.φ i := fun i hi => by simp only [φ]; rw [if_neg (by omega)]
  have hφn : φ H.length = b := by simp [φ]
  have k := h.rephi hφ
  have hm := k.mem (.sl xs (some 0) d) (by simp)
  have hl := k.low (.sl xs (some 0) d) (by simp)
  simp only [Mem, MemL_all] at hm
  simp only [V.low, lowL_all, List.all_eq_true] at hl
  obtain ⟨hm1, hU, hes, hcap, hs⟩ := hm
  rw [ha] at hs
  simp only at hs
  obtain ⟨hca, _, _, hF, _, c, ty, fz, hheap, hfz, hsize⟩ := hs
  have hbm : b ∈ flL (.sl xs (some 0) d :: us) := by simp [flL, fl, ha]
  have hbo := k.own b (.inl hbm)
  have hlen : (H ++ [Ob.cells (flat xs)]).length = H.length + 1 := by simp
  have hflH : flH (H ++ [Ob.cells (flat xs)]) = flH H ++ flL xs := by simp [flH, flL_append, vals_cells, flL_flat]
  have hcnt : ∀ b', ([b].count b' + (flL xs).count b') + (flL us).count b' + (flH H).count b' ≤ 1 := fun b' => by
    have := k.uniq b'
    simp only [flL, fl, ha, Option.isSome_some, if_true, Option.map_some, Option.toList_some, List.count_append] at this
    exact this
  have hfx : (flat xs).length = xs.length * d.es := flat_length hU
  have hle : (flat xs).length ≤ c.size := by have := Nat.mul_le_mul_right d.es hcap; omega
  have hc : c = ((flat xs).map (V.conc φ)).toArray ++ c.extract (flat xs).length c.size := by
    apply Array.ext_getElem?
    intro i
    rw [Array.getElem?_append]
    simp only [List.size_toArray, List.length_map]
    split
    · rename_i hi
      obtain ⟨x, hx⟩ : ∃ x, (flat xs)[i]? = some x := ⟨_, List.getElem?_eq_getElem hi⟩
      have := (hca i x hx).2
      rw [Nat.zero_add, heap_cells hheap] at this
      rw [this]; simp [hx]
    · rename_i hi
      rw [Array.getElem?_extract]
      by_cases h2 : i < c.size
      · rw [if_pos (by omega)]; congr 1; omega
      · rw [if_neg (by omega), Array.getElem?_eq_none (by omega)]
  refine { k with mem := ?_, low := ?_, hmem := ?_, inj := ?_, uniq := ?_, own := ?_, frφ := ?_ }
  · intro v hv
    rcases List.mem_cons.1 hv with rfl | hv
    · simp only [Mem]; exact hcap
    · exact k.mem v (by simp [hv])
  · intro v hv
    rw [hlen]
    rcases List.mem_cons.1 hv with rfl | hv
    · simp [V.low]
    · exact low_mono (k.low v (by simp [hv])) (by omega)
  · intro i o hio
    rcases Nat.lt_or_ge i H.length with hi | hi
    · rw [List.getElem?_append_left hi] at hio; exact k.hmem i o hio
    · have : i = H.length := by have := (List.getElem?_eq_some_iff.1 hio).1; omega
      subst this
      simp only [List.getElem?_append_right (Nat.le_refl _), Nat.sub_self, List.getElem?_cons_zero, Option.some.injEq] at hio
      subst hio
      refine ⟨fun c' hc' => ?_, ⟨fun c' hc' => ?_, ty, c.extract (flat xs).length c.size, fz, ?_, ?_⟩, ?_, ?_⟩
      · simp only [Ob.vals, flat, List.mem_flatMap] at hc'
        obtain ⟨x, hx, hcx⟩ := hc'
        exact ⟨mem_cells (hm1 x hx) c' hcx, low_cells (hl x hx) hcx⟩
      · obtain ⟨j, hj⟩ := List.mem_iff_getElem?.1 hc'
        exact solid_one (hca j c' hj).1
      · show w.heap[φ H.length]? = some (.cells (((flat xs).map (V.conc φ)).toArray ++ _) ty fz)
        rw [hφn, ← hc]; exact hheap
      · show FzOk (((flat xs).map (V.conc φ)).toArray ++ _) fz
        rw [← hc]; exact hfz
      · show g.F (φ H.length) = 0
        rw [hφn]; simpa using hF
      · show ¬ fr.X (φ H.length)
        rw [hφn]; exact hbo.1
  · intro i j hi hj he
    rw [hlen] at hi hj
    have he : φ i = φ j := he
    rcases Nat.lt_or_ge i H.length with hi' | hi'
    · rcases Nat.lt_or_ge j H.length with hj' | hj'
      · exact k.inj i j hi' hj' he
      · have : j = H.length := by omega
        subst this
        rw [hφn] at he; exact absurd he (hbo.2 i hi')
    · have : i = H.length := by omega
      subst this
      rcases Nat.lt_or_ge j H.length with hj' | hj'
      · rw [hφn] at he; exact absurd he.symm (hbo.2 j hj')
      · omega
  · intro b'
    have := hcnt b'
    rw [hflH]
    simp only [flL, fl, List.nil_append, List.count_append]; omega
  · intro b' hb'
    rw [hflH] at hb'
    simp only [flL, fl, List.nil_append, List.mem_append] at hb'
    have hold : b' ∈ flL (.sl xs (some 0) d :: us) ∨ b' ∈ flH H := by
      simp only [flL, fl, List.mem_append]
      rcases hb' with hb' | hb' | hb'
      · exact .inl (.inr hb')
      · exact .inr hb'
      · exact .inl (.inl (.inr hb'))
    have h2 := k.own b' hold
    refine ⟨h2.1, fun i hi => ?_⟩
    rw [hlen] at hi
    rcases Nat.lt_or_ge i H.length with hi' | hi'
    · exact h2.2 i hi'
    · have : i = H.length := by omega
      subst this
      show φ H.length ≠ b'
      rw [hφn]
      rintro rfl
      have h3 := hcnt b
      have h4 : 0 < (flL xs).count b + (flL us).count b + (flH H).count b := by
        rcases hb' with hb' | hb' | hb'
        · have := List.count_pos_iff.2 hb'; omega
        · have := List.count_pos_iff.2 hb'; omega
        · have := List.count_pos_iff.2 hb'; omega
      simp at h3; omega
  · exact ⟨by rw [hlen]; have := k.frφ.1; omega, k.frφ.2⟩
end Rel

/-- A ghost step: an array of one's own is told as a boxed object. -/
theorem AW.obj {E : Env} {c : Code} {Q : X → St → Prop} {st : St} {t : Nat} {xs : List A} (h0 : st.σ t = .sl xs (some 0) ()) (hne : xs ≠ [])
    (h : AW E c Q ⟨upd st.σ t (.win (st.H.length, 0) xs.length ()), st.H ++ [.cells (flat xs)]⟩) : AW E c Q st := by
  intro fr g vs Hs a w hrd hR hA
  rcases hA.tmp_get t with ⟨v, hv, hs, _⟩ | ⟨_, hs, _⟩
  · rw [h0] at hs
    obtain ⟨ys, d, rfl, rfl⟩ := er_sl hs.symm
    have hm := hR.mem _ (List.mem_of_getElem? hv)
    simp only [Mem] at hm
    obtain ⟨_, _, _, _, hso⟩ := hm
    have hHl : st.H.length = Hs.length := by rw [← hA.H]; simp
    cases hda : d.a with
    | none => rw [hda] at hso; simp only at hso; exact absurd (by rw [hso.1]; rfl) hne
    | some p =>
      obtain ⟨b, o⟩ := p
      rw [hda] at hso
      simp only at hso
      obtain ⟨_, _, rfl, _⟩ := hso
      have k := (hR.take hv).objectify hda
      have k2 := k.put t
      rw [List.set_set] at k2
      refine h fr _ _ _ a w hrd k2 ⟨by simpa using hA.len, ?_, ?_, ?_, hA.df⟩
      · rw [hA.tm]
        apply Array.ext'
        simp only [List.map_set]
        apply List.ext_getElem?
        intro i
        rw [List.getElem?_set, List.getElem?_map, List.getElem?_map]
        by_cases hi : t = i
        · subst hi
          rw [if_pos rfl, hv]
          have : t < vs.length := (List.getElem?_eq_some_iff.1 hv).1
          simp [this, V.conc, slA, hda]
        · rw [if_neg hi]
          cases hvi : vs[i]? with
          | none => rfl
          | some x =>
            simp only [Option.map_some, Option.some.injEq]
            refine (conc_congr (n := Hs.length) (fun j hj => ?_) x (hR.low x (List.mem_of_getElem? hvi))).symm
            rw [if_neg (by omega)]
      · intro i
        simp only [upd]
        rw [List.getD_eq_getElem?_getD, List.getElem?_set]
        by_cases hi : i = t
        · subst hi
          have : i < vs.length := (List.getElem?_eq_some_iff.1 hv).1
          rw [if_pos rfl, if_pos rfl, if_pos this]
          simp [V.er, hHl]
        · rw [if_neg hi, if_neg (fun h => hi h.symm), hA.σ i, List.getD_eq_getElem?_getD]
      · rw [List.map_append, hA.H]
        simp only [List.map_cons, List.map_nil, Ob.er]
        rw [er_flat]
  · rw [h0] at hs; simp at hs

/-! what is handed back -/
def chunkR {δ : Type} (es : Nat) : Nat → List (V δ) → List (V δ)
  | 0, _ => []
  | n + 1, cs => .agg (cs.take es) :: chunkR es n (cs.drop es)
theorem chunkR_flat {δ : Type} {es : Nat} : ∀ (n : Nat) (cs : List (V δ)), n * es ≤ cs.length → flat (chunkR es n cs) = cs.take (n * es) ∧ Uni es (chunkR es n cs) = true ∧ (chunkR es n cs).length = n := by
  intro n
  induction n with
  | zero => intro cs _; exact ⟨by simp [chunkR, flat], rfl, rfl⟩
  | succ n ih =>
    intro cs h
    rw [Nat.succ_mul] at h
    obtain ⟨h1, h2, h3⟩ := ih (cs.drop es) (by simp; omega)
    refine ⟨?_, ?_, by simp [chunkR, h3]⟩
    · simp only [chunkR, flat_cons, h1, V.cells]
      rw [Nat.succ_mul, Nat.add_comm, List.take_add]
    · simp only [chunkR, Uni, List.all_cons, Bool.and_eq_true, beq_iff_eq, V.cells, List.length_take]
      exact ⟨by omega, h2⟩
theorem chunkR_er {δ : Type} {es : Nat} : ∀ (n : Nat) (cs : List (V δ)), (chunkR es n cs).map V.er = chunkR es n (cs.map V.er) := by
  intro n
  induction n with
  | zero => intro cs; rfl
  | succ n ih => intro cs; simp only [chunkR, List.map_cons, ih, V.er, erL_map, List.map_take, List.map_drop]
theorem chunkR_mem {δ : Type} {es : Nat} {x : V δ} : ∀ (n : Nat) (cs : List (V δ)), x ∈ chunkR es n cs → ∃ l, x = .agg l ∧ ∀ c ∈ l, c ∈ cs := by
  intro n
  induction n with
  | zero => intro cs h; simp [chunkR] at h
  | succ n ih =>
    intro cs h
    simp only [chunkR, List.mem_cons] at h
    rcases h with rfl | h
    · exact ⟨_, rfl, fun c hc => List.mem_of_mem_take hc⟩
    · obtain ⟨l, rfl, hl⟩ := ih _ h
      exact ⟨l, rfl, fun c hc => List.mem_of_mem_drop (hl c hc)⟩
theorem flat_solid {δ : Type} {l : List (V δ)} (h : ∀ c ∈ l, solid c = true) : flat l = l ∧ Uni 1 l = true := by
  induction l with
  | nil => exact ⟨rfl, rfl⟩
  | cons x l ih =>
    obtain ⟨h1, h2⟩ := ih fun c hc => h c (by simp [hc])
    have hx := cells_ne (solid_one (h x (by simp)))
    refine ⟨by rw [flat_cons, hx, h1]; rfl, ?_⟩
    simp only [Uni, List.all_cons, hx, Bool.and_eq_true]
    exact ⟨rfl, h2⟩

/-- The elements that n elements' cells are. -/
def elems {δ : Type} (agg : Bool) (es n : Nat) (cs : List (V δ)) : List (V δ) := bif agg then chunkR es n cs else cs.take n

def thaw1 (N es : Nat) (agg : Bool) (H : Heap) (v : A) : Option A :=
  match v with
  | .win p n () =>
    if p.1 < N then some (.win p n ()) else
    (match H[p.1]? with
     | some (.cells cs) => if cs.all flagless = true ∧ cs.all solid = true ∧ cs.all (V.low N) = true ∧ p.2 + n * es ≤ cs.length ∧ (agg = true ∨ es = 1) then some (.sl (elems agg es n (cs.drop p.2)) none ()) else none
     | _ => none)
  | v => if v.low N = true then some v else none
def thawA (N es : Nat) (agg : Bool) (H : Heap) (v : A) : Option A :=
  match v with
  | .tup vs => (vs.mapM (thaw1 N es agg H)).map .tup
  | v => thaw1 N es agg H v

section
variable {fr : Fr} {g : Ghost} {vs : List (V D)} {Hs : List (Ob D)} {w : World} {N es : Nat} {agg : Bool}

open Classical in
/-- What never changes again, once the objects from N on are given up. -/
noncomputable def frozeF (g : Ghost) (Hs : List (Ob D)) (N : Nat) (b : Nat) : Nat :=
  if h : ∃ i cs, N ≤ i ∧ Hs[i]? = some (.cells cs) ∧ g.φ i = b then h.choose_spec.choose.length else g.F b
theorem frozeF_at (hR : Rel fr g vs Hs w) {i : Nat} {cs : List (V D)} (hN : N ≤ i) (hi : Hs[i]? = some (.cells cs)) : frozeF g Hs N (g.φ i) = cs.length := by
  have h : ∃ j ds, N ≤ j ∧ Hs[j]? = some (.cells ds) ∧ g.φ j = g.φ i := ⟨i, cs, hN, hi, rfl⟩
  unfold frozeF
  rw [dif_pos h]
  have key : ∀ j ds, Hs[j]? = some (.cells ds) → g.φ j = g.φ i → ds.length = cs.length := by
    intro j ds h2 h3
    have hj := (List.getElem?_eq_some_iff.1 h2).1
    have hi' := (List.getElem?_eq_some_iff.1 hi).1
    have := hR.inj _ _ hj hi' h3
    rw [this, hi] at h2
    simp only [Option.some.injEq, Ob.cells.injEq] at h2
    rw [← h2]
  obtain ⟨h1, h2, h3⟩ := h.choose_spec.choose_spec
  exact key _ _ h2 h3
theorem frozeF_other {b : Nat} (h : ∀ i, N ≤ i → i < Hs.length → g.φ i ≠ b) : frozeF g Hs N b = g.F b := by
  unfold frozeF
  rw [dif_neg]
  rintro ⟨i, cs, hN, hi, he⟩
  exact h i hN (List.getElem?_eq_some_iff.1 hi).1 he

theorem thaw_sound (hR : Rel fr g vs Hs w) (hN : fr.N0 ≤ N) (hes : 0 < es) {rs : List A} (h : (vs.map V.er).mapM (thaw1 N es agg (Hs.map Ob.er)) = some rs) :
    ∃ g' svs, Rel fr g' svs (Hs.take N) w ∧ svs.map V.er = rs ∧ svs.map (V.conc g'.φ) = vs.map (V.conc g.φ) := by
  let F := frozeF g Hs N
  have hle : ∀ b, g.F b ≤ F b := by
    intro b
    by_cases hb : ∃ i cs, N ≤ i ∧ Hs[i]? = some (.cells cs) ∧ g.φ i = b
    · obtain ⟨i, cs, _, hi, rfl⟩ := hb
      rw [(hR.hmem i _ hi).2.2.1]; exact Nat.zero_le _
    · show _ ≤ frozeF g Hs N b
      unfold frozeF
      rw [dif_neg hb]; exact Nat.le_refl _
  have hFfl : ∀ b, b ∈ flL vs ∨ b ∈ flH Hs → F b = g.F b := fun b hb => frozeF_other fun i _ hi => (hR.own b hb).2 i hi
  have hMv : ∀ v, (∀ b ∈ v.fl, b ∈ flL vs ∨ b ∈ flH Hs) → Mem g w v → Mem ⟨g.φ, F⟩ w v := fun v hb hm => Mem_F hle v (fun b hbv => hFfl b (hb b hbv)) hm
  -- one value
  have one : ∀ v ∈ vs, ∀ r, thaw1 N es agg (Hs.map Ob.er) v.er = some r → ∃ sv : V D, sv.er = r ∧ V.conc g.φ sv = V.conc g.φ v ∧ Mem ⟨g.φ, F⟩ w sv ∧ sv.low N = true ∧ (sv.fl = [] ∨ sv = v) := by
    intro v hv r hr
    have hdef : ∀ v' : A, thaw1 N es agg (Hs.map Ob.er) v' = some r → (∀ p n, v' ≠ .win p n ()) → v'.low N = true ∧ v' = r := by
      intro v' h1 h2
      cases v' <;> simp only [thaw1] at h1 <;> first
        | (exfalso; exact h2 _ _ rfl)
        | (split at h1
           · rename_i hl; simp only [Option.some.injEq] at h1; exact ⟨hl, h1⟩
           · cases h1)
    by_cases hw : ∃ p n d, v = .win p n d
    · obtain ⟨p, n, d, rfl⟩ := hw
      simp only [V.er, thaw1] at hr
      split at hr
      · rename_i hlt
        simp only [Option.some.injEq] at hr; subst hr
        exact ⟨.win p n d, rfl, rfl, by have := hR.mem _ hv; simpa [Mem] using this, by simpa [V.low] using hlt, .inr rfl⟩
      · rename_i hge
        split at hr
        · rename_i cs hH
          split at hr
          · rename_i hc
            obtain ⟨c1, c2, c3, c4, c5⟩ := hc
            simp only [Option.some.injEq] at hr; subst hr
            rw [List.getElem?_map] at hH
            obtain ⟨o, ho, hoe⟩ := Option.map_eq_some_iff.1 hH
            cases o with
            | cells ds =>
              simp only [Ob.er, Ob.cells.injEq] at hoe
              subst hoe
              obtain ⟨hm, ⟨hones, ty, rest, fz, hheap, hfz⟩, hF0, hX⟩ := hR.hmem _ _ ho
              simp only [Ob.vals] at hm
              have hFb : F (g.φ p.1) = ds.length := frozeF_at hR (by omega) ho
              simp only [List.length_map] at c4
              simp only [List.all_map, List.all_eq_true, Function.comp_def, er_flagless, er_low] at c1 c3
              have c2' : ∀ x ∈ ds, solid x = true := by
                intro x hx
                have := List.all_eq_true.1 c2 _ (List.mem_map.2 ⟨x, hx, rfl⟩)
                cases x <;> simp_all [V.er, solid]
              have hdp : n * es ≤ (ds.drop p.2).length := by simp; omega
              have hcm := hR.mem _ hv
              simp only [Mem] at hcm
              have key : flat (elems agg es n (ds.drop p.2)) = (ds.drop p.2).take (n * es) ∧ Uni es (elems agg es n (ds.drop p.2)) = true ∧ (elems agg es n (ds.drop p.2)).length = n ∧
                  (∀ x ∈ elems agg es n (ds.drop p.2), x.flagless = true ∧ Mem ⟨g.φ, F⟩ w x ∧ x.low N = true) ∧ (elems agg es n (ds.drop p.2)).map V.er = elems agg es n ((ds.map V.er).drop p.2) := by
                have hcell : ∀ c ∈ ds.drop p.2, c.flagless = true ∧ Mem ⟨g.φ, F⟩ w c ∧ c.low N = true := fun c hc =>
                  ⟨c1 c (List.mem_of_mem_drop hc), hMv c (by rw [fl_nil (c1 c (List.mem_of_mem_drop hc))]; simp) (hm c (List.mem_of_mem_drop hc)).1, c3 c (List.mem_of_mem_drop hc)⟩
                cases agg with
                | true =>
                  obtain ⟨k1, k2, k3⟩ := chunkR_flat n (ds.drop p.2) hdp
                  refine ⟨k1, k2, k3, fun x hx => ?_, by simp only [elems, cond_true]; rw [chunkR_er, List.map_drop]⟩
                  obtain ⟨l, rfl, hl⟩ := chunkR_mem n _ hx
                  refine ⟨?_, ?_, ?_⟩
                  · simp only [flagless, flaglessL_all, List.all_eq_true]; exact fun c hc => (hcell c (hl c hc)).1
                  · simp only [Mem, MemL_all]; exact fun c hc => (hcell c (hl c hc)).2.1
                  · simp only [V.low, lowL_all, List.all_eq_true]; exact fun c hc => (hcell c (hl c hc)).2.2
                | false =>
                  obtain rfl : es = 1 := c5.resolve_left (by simp)
                  have hsl : ∀ c ∈ (ds.drop p.2).take n, solid c = true := fun c hc => c2' c (List.mem_of_mem_drop (List.mem_of_mem_take hc))
                  obtain ⟨k1, k2⟩ := flat_solid hsl
                  refine ⟨by simp only [elems, cond_false]; rw [k1, Nat.mul_one], k2, by simp only [elems, cond_false, List.length_take]; omega, fun x hx => hcell x (List.mem_of_mem_take hx), by simp only [elems, cond_false]; rw [List.map_take, List.map_drop]⟩
              obtain ⟨k1, k2, k3, k4, k5⟩ := key
              refine ⟨.sl (elems agg es n (ds.drop p.2)) none { a := some (g.φ p.1, p.2), cap := d.cap, es := es }, ?_, ?_, ?_, ?_, .inl ?_⟩
              · simp only [V.er, erL_map, k5]
              · simp only [V.conc, slA, k3]
              · simp only [Mem, MemL_all]
                refine ⟨fun x hx => (k4 x hx).2.1, k2, hes, by rw [k3]; exact hcm, ?_⟩
                simp only
                refine ⟨?_, ?_, .inr ?_⟩
                · intro j c hj
                  rw [k1] at hj
                  have hjl := (List.getElem?_eq_some_iff.1 hj).1
                  simp only [List.length_take] at hjl
                  rw [List.getElem?_take, if_pos (by omega), List.getElem?_drop] at hj
                  have hjd := (List.getElem?_eq_some_iff.1 hj).1
                  refine ⟨c2' c (List.mem_of_getElem? hj), ?_⟩
                  rw [heap_cells hheap, Array.getElem?_append_left (by simpa using hjd)]
                  simp [hj]
                · rw [flaglessL_all]; simp only [List.all_eq_true]; exact fun x hx => (k4 x hx).1
                · rw [hFb, k3]; exact c4
              · simp only [V.low, lowL_all, List.all_eq_true]; exact fun x hx => (k4 x hx).2.2
              · simp only [fl, Option.isSome_none, Bool.false_eq_true, if_false, List.nil_append]
                rw [flL_flatMap, List.flatMap_eq_nil_iff]; exact fun x hx => fl_nil (k4 x hx).1
            | map es => simp [Ob.er] at hoe
            | loop l r cs => simp [Ob.er] at hoe
          · cases hr
        · cases hr
    · have hnw : ∀ p n, v.er ≠ .win p n () := by
        intro p n he
        obtain ⟨d, hd⟩ := er_win he
        exact hw ⟨p, n, d, hd⟩
      obtain ⟨h1, rfl⟩ := hdef _ hr hnw
      refine ⟨v, rfl, rfl, hMv v (fun b hb => .inl (flL_mem.2 ⟨v, hv, hb⟩)) (hR.mem v hv), by rw [← er_low]; exact h1, .inr rfl⟩
  have list : ∀ (l : List (V D)) (rs : List A), (∀ v ∈ l, v ∈ vs) → (l.map V.er).mapM (thaw1 N es agg (Hs.map Ob.er)) = some rs →
      ∃ svs : List (V D), svs.map V.er = rs ∧ svs.map (V.conc g.φ) = l.map (V.conc g.φ) ∧ (∀ s ∈ svs, Mem ⟨g.φ, F⟩ w s ∧ s.low N = true) ∧ ∀ b, (flL svs).count b ≤ (flL l).count b := by
    intro l
    induction l with
    | nil => intro rs _ h; simp only [List.map_nil, List.mapM_nil, Option.pure_def, Option.some.injEq] at h; subst h; exact ⟨[], rfl, rfl, by simp, fun _ => Nat.le_refl _⟩
    | cons v l ih =>
      intro rs hin h
      simp only [List.map_cons, List.mapM_cons, Option.bind_eq_bind, Option.bind_eq_some_iff, Option.pure_def, Option.some.injEq] at h
      obtain ⟨r, hr, rs', hrs, rfl⟩ := h
      obtain ⟨sv, a1, a2, a3, a4, a5⟩ := one v (hin v (by simp)) r hr
      obtain ⟨svs, b1, b2, b3, b4⟩ := ih rs' (fun x hx => hin x (by simp [hx])) hrs
      refine ⟨sv :: svs, by simp [a1, b1], by simp [a2, b2], ?_, ?_⟩
      · intro s hs
        rcases List.mem_cons.1 hs with rfl | hs
        · exact ⟨a3, a4⟩
        · exact b3 s hs
      · intro b
        have := b4 b
        simp only [flL, List.count_append]
        rcases a5 with a5 | rfl
        · rw [a5]; simp; omega
        · omega
  obtain ⟨svs, k1, k2, k3, k4⟩ := list vs rs (fun _ h => h) h
  refine ⟨⟨g.φ, F⟩, svs, ?_, k1, k2⟩
  have hlen : (Hs.take N).length ≤ Hs.length := by simp; omega
  have hlenN : (Hs.take N).length = N ∨ Hs.length < N := by
    by_cases h : N ≤ Hs.length
    · exact .inl (by simp; omega)
    · exact .inr (by omega)
  have hsub : ∀ b, (flH (Hs.take N)).count b ≤ (flH Hs).count b := by
    intro b
    have : flH Hs = flH (Hs.take N) ++ flH (Hs.drop N) := by
      simp only [flH]; rw [← flL_append, ← List.flatMap_append, List.take_append_drop]
    rw [this, List.count_append]; omega
  have hback : ∀ b, b ∈ flL svs ∨ b ∈ flH (Hs.take N) → b ∈ flL vs ∨ b ∈ flH Hs := fun b hb =>
    hb.imp (fun hb => List.count_pos_iff.1 (Nat.lt_of_lt_of_le (List.count_pos_iff.2 hb) (k4 b))) (fun hb => List.count_pos_iff.1 (Nat.lt_of_lt_of_le (List.count_pos_iff.2 hb) (hsub b)))
  have hFφ : ∀ i, i < N → i < Hs.length → F (g.φ i) = g.F (g.φ i) := fun i hi hil => frozeF_other fun j hj hjl e => by
    have := hR.inj j i hjl hil e; omega
  refine { hR with mem := fun v hv => (k3 v hv).1, low := ?_, hmem := ?_, inj := fun i j hi hj => hR.inj i j (by omega) (by omega), uniq := ?_, own := ?_, frX := ?_, frF := fun b => Nat.le_trans (hR.frF b) (hle b), frφ := ?_, new := ?_ }
  · intro v hv
    rcases hlenN with hl | hl
    · rw [hl]; exact (k3 v hv).2
    · rw [List.take_of_length_le (by omega)]
      -- all objects are there
      have hall : ∀ u ∈ vs, u.low Hs.length = true := hR.low
      have : ∀ (l : List (V D)) (rs : List A), (∀ v ∈ l, v ∈ vs) → (l.map V.er).mapM (thaw1 N es agg (Hs.map Ob.er)) = some rs → rs = l.map V.er := by
        intro l
        induction l with
        | nil => intro rs _ h; simp only [List.map_nil, List.mapM_nil, Option.pure_def, Option.some.injEq] at h; subst h; rfl
        | cons x l ih =>
          intro rs hin h
          simp only [List.map_cons, List.mapM_cons, Option.bind_eq_bind, Option.bind_eq_some_iff, Option.pure_def, Option.some.injEq] at h
          obtain ⟨r, hr, rs', hrs, rfl⟩ := h
          rw [ih rs' (fun y hy => hin y (by simp [hy])) hrs, List.map_cons]
          congr 1
          have hlx := hall x (hin x (by simp))
          rw [← er_low] at hlx
          generalize x.er = y at hlx hr
          cases y <;> simp only [thaw1] at hr <;> first
            | (split at hr
               · exact (Option.some.inj hr).symm
               · first | cases hr | (rename_i hge; simp only [V.low, decide_eq_true_eq] at hlx; omega))
      have hrs := this vs rs (fun _ h => h) h
      rw [← er_low]
      have hin : v.er ∈ vs.map V.er := by rw [← hrs, ← k1]; exact List.mem_map.2 ⟨v, hv, rfl⟩
      obtain ⟨u, hu, he⟩ := List.mem_map.1 hin
      rw [← he, er_low]; exact hall u hu
  · intro i o ho
    rw [List.getElem?_take] at ho
    split at ho
    · rename_i hiN
      obtain ⟨h1, h2, h3, h4⟩ := hR.hmem i o ho
      have hil := (List.getElem?_eq_some_iff.1 ho).1
      refine ⟨fun c hc => ⟨hMv c (fun b hb => .inr (flL_mem.2 ⟨c, List.mem_flatMap.2 ⟨o, List.mem_of_getElem? ho, hc⟩, hb⟩)) (h1 c hc).1, (h1 c hc).2⟩, h2, ?_, h4⟩
      exact (hFφ i hiN hil).trans h3
    · cases ho
  · intro b; have := hR.uniq b; have := k4 b; have := hsub b; omega
  · intro b hb
    have := hR.own b (hback b hb)
    exact ⟨this.1, fun i hi => this.2 i (by omega)⟩
  · intro b hb
    obtain ⟨h1, h2, h3⟩ := hR.frX b hb
    refine ⟨h1, ?_, h3⟩
    refine (frozeF_other fun i _ hi e => ?_).trans h2
    exact (hR.hmem i Hs[i] (by simp [hi])).2.2.2 (e ▸ hb)
  · refine ⟨?_, hR.frφ.2⟩
    have := hR.frφ.1
    simp; omega
  · intro b hb
    refine (frozeF_other fun i _ hi e => ?_).trans (hR.new b hb)
    have := hR.φ_lt hi
    omega

/-- What a function hands back of the arrays that it made is handed back as slices that never change again. -/
theorem AC.thaw {P : Program} {f : FuncId} {args : List A} {H : Heap} {Q : A → Heap → Prop} (es : Nat) (agg : Bool) (hes : 0 < es)
    (h : AC P f args H (fun r H' => ∃ r', thawA H.length es agg H' r = some r' ∧ Q r' (H'.take H.length))) : AC P f args H Q := by
  intro fr g as Hs w hR h1 h2
  have hN : fr.N0 ≤ H.length := by rw [← h2, List.length_map]; exact hR.frφ.1
  have hc : ∀ e w1, CPost fr (fun r H' => ∃ r', thawA H.length es agg H' r = some r' ∧ Q r' (H'.take H.length)) e w1 → CPost fr Q e w1 := by
    rintro e w1 ⟨g', r, Hs', rfl, hR', r', hr, hq⟩
    by_cases ht : ∃ vs, r = .tup vs
    · obtain ⟨vs, rfl⟩ := ht
      simp only [V.er, erL_map, thawA] at hr
      obtain ⟨rs, hrs, rfl⟩ := Option.map_eq_some_iff.1 hr
      have hvs : Rel fr g' vs Hs' w1 := by
        refine hR'.weaken ?_ ?_ (fun b => by simp [flL, fl])
        · have := hR'.mem (.tup vs) (by simp)
          simpa only [Mem, MemL_all] using this
        · have := hR'.low (.tup vs) (by simp)
          simpa only [V.low, lowL_all, List.all_eq_true] using this
      obtain ⟨g2, svs, k1, k2, k3⟩ := thaw_sound hvs hN hes hrs
      refine ⟨g2, .tup svs, Hs'.take H.length, by simp only [V.conc, concL_map, k3], ?_, ?_⟩
      · refine k1.weaken ?_ ?_ (fun b => by simp [flL, fl])
        · intro v hv; rw [List.mem_singleton.1 hv]; simp only [Mem, MemL_all]; exact k1.mem
        · intro v hv; rw [List.mem_singleton.1 hv]; simp only [V.low, lowL_all, List.all_eq_true]; exact k1.low
      · simp only [V.er, erL_map, k2]; rw [List.map_take]; exact hq
    · have hr1 : thaw1 H.length es agg (Hs'.map Ob.er) r.er = some r' := by
        unfold thawA at hr
        split at hr
        · rename_i vs he
          obtain ⟨ys, rfl, _⟩ := er_tup he
          exact absurd ⟨ys, rfl⟩ ht
        · exact hr
      obtain ⟨g2, svs, k1, k2, k3⟩ := thaw_sound (agg := agg) (rs := [r']) hR' hN hes (by simp [hr1])
      match svs, k2, k3 with
      | [sv], k2, k3 =>
        simp only [List.map_cons, List.map_nil, List.cons.injEq, and_true] at k2 k3
        exact ⟨g2, sv, Hs'.take H.length, by rw [k3], k1, by rw [k2, List.map_take]; exact hq⟩
  have := h fr g as Hs w hR h1 h2
  split at this
  · exact this.mono hc
  · exact hc _ _ this
  · exact this.elim
end
end Go.Ab
end
