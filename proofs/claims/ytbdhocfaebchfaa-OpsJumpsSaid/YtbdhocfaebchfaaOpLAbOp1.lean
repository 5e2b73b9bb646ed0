/- Abstract values and rules for them, proved sound over the model. -/
import Derived.Test.YtbdhocfaebchfaaOpLAbPure5
set_option linter.all false
set_option linter.unusedSimpArgs false
set_option linter.unusedVariables false
set_option linter.unnecessarySimpa false
section
/- Values are taken, and copied, out of slots and out of the heap. -/
namespace Go.Ab
open V
variable [Glob]
set_option linter.unusedSimpArgs false
set_option linter.unusedVariables false
set_option linter.unusedSectionVars false

theorem count_setH (b : Nat) (o o' : Ob D) : ∀ (H : List (Ob D)) (i : Nat), H[i]? = some o →
    (flH (H.set i o')).count b + (flL o.vals).count b = (flH H).count b + (flL o'.vals).count b := by
  intro H
  induction H with
  | nil => intro i h; simp at h
  | cons x H ih =>
    intro i h
    cases i with
    | zero =>
      simp only [List.getElem?_cons_zero, Option.some.injEq] at h
      subst h
      simp only [List.set_cons_zero, flH, List.flatMap_cons, flL_append, List.count_append]; omega
    | succ i =>
      simp only [List.getElem?_cons_succ] at h
      have := ih i h
      simp only [flH, List.set_cons_succ, List.flatMap_cons, flL_append, List.count_append] at *; omega

namespace Rel
variable {fr : Fr} {g : Ghost} {vs us : List (V D)} {H H' : List (Ob D)} {w : World} {F : Nat → Nat}

theorem blk_lt {b : Nat} (h : Rel fr g vs H w) (hb : b ∈ flL vs ∨ b ∈ flH H) : b < w.heap.size := by
  rcases hb with hb | hb
  · obtain ⟨v, hv, hbv⟩ := flL_mem.1 hb
    exact ghostF.flsize hbv (h.mem v hv)
  · obtain ⟨v, hv, hbv⟩ := flL_mem.1 hb
    obtain ⟨o, ho, hvo⟩ := List.mem_flatMap.1 hv
    obtain ⟨i, hi⟩ := List.mem_iff_getElem?.1 ho
    exact ghostF.flsize hbv ((h.hmem i o hi).1 v hvo).1

/-- The world stays; rights move about, more cells never change again. -/
theorem reghost (h : Rel fr g vs H w) (hF : ∀ b, g.F b ≤ F b) (hk : ∀ b, b ∉ flL vs → b ∉ flH H → F b = g.F b)
    (hm : ∀ v ∈ us, Mem ⟨g.φ, F⟩ w v) (hl : ∀ v ∈ us, v.low H.length = true) (hlen : H'.length = H.length)
    (hH : ∀ (i : Nat) o, H'[i]? = some o → (∀ c ∈ o.vals, Mem ⟨g.φ, F⟩ w c ∧ c.low i = true) ∧ ObOk g.φ w (g.φ i) o)
    (hc : ∀ b, (flL us).count b + (flH H').count b ≤ (flL vs).count b + (flH H).count b) : Rel fr ⟨g.φ, F⟩ us H' w := by
  have hX : ∀ b, fr.X b → F b = g.F b := fun b hb => hk b (fun hf => (h.own b (.inl hf)).1 hb) (fun hf => (h.own b (.inr hf)).1 hb)
  have hO : ∀ i, i < H.length → F (g.φ i) = g.F (g.φ i) := fun i hi => hk _ (fun hf => (h.own _ (.inl hf)).2 i hi rfl) (fun hf => (h.own _ (.inr hf)).2 i hi rfl)
  have hold : ∀ b, b ∈ flL us ∨ b ∈ flH H' → b ∈ flL vs ∨ b ∈ flH H := by
    intro b hb
    have h1 := hc b
    have h2 : 0 < (flL us).count b + (flH H').count b := by
      rcases hb with hb | hb
      · have := List.count_pos_iff.2 hb; omega
      · have := List.count_pos_iff.2 hb; omega
    by_cases h3 : b ∈ flL vs
    · exact .inl h3
    · refine .inr (List.count_pos_iff.1 ?_)
      have := List.count_eq_zero.2 h3
      omega
  refine { h with mem := hm, low := by rw [hlen]; exact hl, hmem := ?_, inj := by rw [hlen]; exact h.inj, uniq := fun b => Nat.le_trans (hc b) (h.uniq b), own := ?_, frX := ?_, frF := fun b => Nat.le_trans (h.frF b) (hF b), frφ := by rw [hlen]; exact h.frφ, new := ?_ }
  · intro i o ho
    have hi : i < H.length := by rw [← hlen]; exact (List.getElem?_eq_some_iff.1 ho).1
    obtain ⟨h1, h2⟩ := hH i o ho
    obtain ⟨_, _, h3, h4⟩ := h.hmem i H[i] (by simp [hi])
    exact ⟨h1, h2, (hO i hi).trans h3, h4⟩
  · intro b hb
    have := h.own b (hold b hb)
    exact ⟨this.1, by rw [hlen]; exact this.2⟩
  · intro b hb
    obtain ⟨h1, h2, h3⟩ := h.frX b hb
    exact ⟨h1, (hX b hb).trans h2, h3⟩
  · intro b hb
    refine (hk b (fun hf => ?_) (fun hf => ?_)).trans (h.new b hb)
    · have := h.blk_lt (.inl hf); omega
    · have := h.blk_lt (.inr hf); omega
end Rel

section
variable {fr : Fr} {g : Ghost} {vs pre : List (V D)} {Hs : List (Ob D)} {w : World} {n : Nat} {st : St} {a : Act}

theorem At.tmp_get (hA : At fr n g.φ st vs Hs a) (t : Nat) : (∃ v, vs[t]? = some v ∧ st.σ t = v.er ∧ sev vs a (.tmp t) = v) ∨ (vs[t]? = none ∧ st.σ t = .undef () ∧ sev vs a (.tmp t) = ud) := by
  have h := hA.σ t
  rw [List.getD_eq_getElem?_getD] at h
  simp only [sev, List.getD_eq_getElem?_getD]
  cases hv : vs[t]? with
  | none => rw [hv] at h; exact .inr ⟨rfl, h, rfl⟩
  | some v => rw [hv] at h; exact .inl ⟨v, rfl, h, rfl⟩

theorem At.set (hA : At fr n g.φ st vs Hs a) {t : Nat} {v u : V D} (hv : vs[t]? = some v) (hc : V.conc g.φ u = V.conc g.φ v) :
    At fr n g.φ { st with σ := upd st.σ t u.er } (vs.set t u) Hs a := by
  have hlt := (List.getElem?_eq_some_iff.1 hv).1
  refine ⟨by simpa using hA.len, ?_, ?_, hA.H, hA.df⟩
  · rw [hA.tm]
    congr 1
    apply List.ext_getElem?
    intro i
    simp only [List.getElem?_map, List.getElem?_set]
    by_cases hi : t = i
    · subst hi; simp [hlt, hc, (List.getElem?_eq_some_iff.1 hv).2]
    · simp [hi]
  · intro i
    simp only [upd]
    rw [List.getD_eq_getElem?_getD, List.getElem?_set]
    by_cases hi : i = t
    · subst hi; simp [hlt]
    · rw [if_neg hi, if_neg (fun h => hi h.symm), hA.σ i, List.getD_eq_getElem?_getD]

theorem At.not_tmp_ev (hA : At fr n g.φ st vs Hs a) {x : Operand} (hx : ∀ t, x ≠ .tmp t) (hR : Rel fr g (pre ++ vs) Hs w) :
    Rel fr g (sev vs a x :: (pre ++ vs)) Hs w ∧ (sev vs a x).er = ev st x ∧ V.conc g.φ (sev vs a x) = a.eval x := by
  refine ⟨?_, (hA.ev_eq x).symm, (hA.conc_eq x).symm⟩
  cases x with
  | tmp t => exact absurd rfl (hx t)
  | const v =>
    simp only [sev]
    cases hv : ofConst v with
    | none => exact hR.cons (by simp only [Mem]; rintro b rfl; simp [ofConst, ofConst1] at hv) rfl rfl
    | some y => exact hR.cons ((ofConst_lift hv).mem _ _) ((ofConst_lift hv).low _) (ofConst_lift hv).fl
  | func f => exact hR.cons (by simp [sev, Mem, MemL]) rfl rfl
  | global f =>
    simp only [sev]
    cases ht : Glob.tab f with
    | none => exact hR.cons (by simp only [Mem]; intro b hb; exact absurd hb (by simp [Act.eval])) rfl rfl
    | some cs => have := tab_mem hR ht; exact hR.cons this.1 (this.2.1 _) this.2.2

theorem use_sound (hR : Rel fr g (pre ++ vs) Hs w) (hA : At fr n g.φ st vs Hs a) (x : Operand) :
    ∃ sv vs1, Rel fr g (sv :: (pre ++ vs1)) Hs w ∧ At fr n g.φ (use x st).2 vs1 Hs a ∧ sv.er = (use x st).1 ∧ V.conc g.φ sv = a.eval x := by
  by_cases hx : ∃ t, x = .tmp t
  · obtain ⟨t, rfl⟩ := hx
    rcases hA.tmp_get t with ⟨v, hv, hσ, hs⟩ | ⟨hv, hσ, hs⟩
    · have hvm : v ∈ vs := List.mem_of_getElem? hv
      by_cases hf : v.flagless = true
      · refine ⟨v, vs, hR.cons (hR.mem v (by simp [hvm])) (hR.low v (by simp [hvm])) (fl_nil hf), ?_, ?_, ?_⟩
        · simp only [use, hσ, er_flagless, hf, if_true]; exact hA
        · simp only [use, hσ, er_flagless, hf, if_true]
        · rw [hA.conc_eq, hs]
      · have hf' : v.flagless = false := by simpa using hf
        have ht := hR.take (t := pre.length + t) (v := v) (by rw [List.getElem?_append_right (by omega)]; simpa using hv)
        rw [List.set_append_right _ _ (by omega), Nat.add_sub_cancel_left] at ht
        refine ⟨v, vs.set t (leave (raw g.φ) v), ht, ?_, ?_, ?_⟩
        · simp only [use, hσ, er_flagless, hf', Bool.false_eq_true, if_false]
          have := hA.set hv (u := leave (raw g.φ) v) (conc_leave _ _)
          rw [er_leave] at this
          exact this
        · simp only [use, hσ, er_flagless, hf', Bool.false_eq_true, if_false]
        · rw [hA.conc_eq, hs]
    · refine ⟨ud, vs, hR.cons (by simp [ud, Mem]) rfl rfl, ?_, ?_, ?_⟩
      · simp only [use, hσ, flagless, if_true]; exact hA
      · simp only [use, hσ, flagless, if_true]; rfl
      · rw [hA.conc_eq, hs]
  · have hx' : ∀ t, x ≠ .tmp t := fun t h => hx ⟨t, h⟩
    obtain ⟨h1, h2, h3⟩ := hA.not_tmp_ev hx' hR
    have hu : use x st = (ev st x, st) := by cases x <;> first | rfl | exact absurd rfl (hx' _)
    rw [hu]
    exact ⟨_, vs, h1, hA, h2, h3⟩

theorem copy_sound (hR : Rel fr g (pre ++ vs) Hs w) (hA : At fr n g.φ st vs Hs a) (x : Operand) :
    ∃ F sv vs1, Rel fr ⟨g.φ, F⟩ (sv :: (pre ++ vs1)) Hs w ∧ At fr n g.φ (copyOf x st).2 vs1 Hs a ∧ sv.er = (copyOf x st).1 ∧ V.conc g.φ sv = a.eval x := by
  by_cases hx : ∃ t, x = .tmp t
  · obtain ⟨t, rfl⟩ := hx
    rcases hA.tmp_get t with ⟨v, hv, hσ, hs⟩ | ⟨hv, hσ, hs⟩
    · have hvm : v ∈ vs := List.mem_of_getElem? hv
      by_cases hf : v.flagless = true
      · refine ⟨g.F, v, vs, hR.cons (hR.mem v (by simp [hvm])) (hR.low v (by simp [hvm])) (fl_nil hf), ?_, ?_, ?_⟩
        · simp only [copyOf, hσ, er_flagless, hf, if_true]; exact hA
        · simp only [copyOf, hσ, er_flagless, hf, if_true]
        · rw [hA.conc_eq, hs]
      · have hf' : v.flagless = false := by simpa using hf
        obtain ⟨F, ht⟩ := hR.copy (t := pre.length + t) (v := v) (by rw [List.getElem?_append_right (by omega)]; simpa using hv)
        rw [List.set_append_right _ _ (by omega), Nat.add_sub_cancel_left] at ht
        refine ⟨F, v.strip, vs.set t v.share, ht, ?_, ?_, ?_⟩
        · simp only [copyOf, hσ, er_flagless, hf', Bool.false_eq_true, if_false]
          have := hA.set hv (u := v.share) (conc_share _ _)
          rw [er_share] at this
          exact this
        · simp only [copyOf, hσ, er_flagless, hf', Bool.false_eq_true, if_false]; exact er_strip v
        · rw [conc_strip, hA.conc_eq, hs]
    · refine ⟨g.F, ud, vs, hR.cons (by simp [ud, Mem]) rfl rfl, ?_, ?_, ?_⟩
      · simp only [copyOf, hσ, flagless, if_true]; exact hA
      · simp only [copyOf, hσ, flagless, if_true]; rfl
      · rw [hA.conc_eq, hs]
  · have hx' : ∀ t, x ≠ .tmp t := fun t h => hx ⟨t, h⟩
    obtain ⟨h1, h2, h3⟩ := hA.not_tmp_ev hx' hR
    have hu : copyOf x st = (ev st x, st) := by cases x <;> first | rfl | exact absurd rfl (hx' _)
    rw [hu]
    exact ⟨g.F, _, vs, h1, hA, h2, h3⟩
end
end Go.Ab
end
