/- Abstract values and rules for them, proved sound over the model. -/
import Derived.Test.YtbdhocfaebchfaaOpLAbLoop2
set_option linter.all false
set_option linter.unusedSimpArgs false
set_option linter.unusedVariables false
set_option linter.unnecessarySimpa false
section
/- Loops over functions: one variable; words. -/
namespace Go.Ab
open V
variable [Glob]
set_option linter.unusedVariables false

/-- The surroundings of a round's code. -/
def envR (P : Program) (n : Nat) (mode : Tmp → Mode) (frz : Tmp → Bool) : Env := { P := P, T := tyFrom P, mode := mode, frz := frz, n := n, rnd := true }
theorem envR_ok {P : Program} {n : Nat} {mode : Tmp → Mode} {frz : Tmp → Bool} : (envR P n mode frz).Ok := fun t y h => env_ok (P := P) (n := n) (mode := mode) (frz := frz) t y h

def busy (r : Loop) : Loop := { r with state := .busy }
def over (r : Loop) (x : X) : Loop := { r with state := if x.jump.isNone then .ready else .done, pending := x.jump }
theorem over_normal {r : Loop} (h1 : r.state = .ready) (h2 : r.pending = none) : over r .normal = r := by
  obtain ⟨s, p, _⟩ := r
  simp only at h1 h2
  subst h1; subst h2; rfl

theorem tmpsOf_length (n : Nat) (σ : Nat → A) : (tmpsOf n σ).length = n := by simp [tmpsOf]
theorem tmpsOf_getD (n : Nat) (σ : Nat → A) (t : Nat) : (tmpsOf n σ).getD t (.undef ()) = if t < n then lv (σ t) else .undef () := by
  simp only [tmpsOf, List.getD_eq_getElem?_getD, List.getElem?_map]
  split
  · rename_i h; rw [List.getElem?_range h]; rfl
  · rename_i h; rw [List.getElem?_eq_none (by simp; omega)]; rfl
theorem tmpsOf_flagless (n : Nat) (σ : Nat → A) : (tmpsOf n σ).all flagless = true := by
  simp only [tmpsOf, List.all_map, List.all_eq_true]
  intro t _
  exact leave_flagless _ _

/-- At a round's end. -/
def endQ (i l : Nat) (r : Loop) (cs : List A) (Q : A → Heap → Prop) (x : X) (st : St) : Prop :=
  st.H[i]? = some (.loop l (busy r) cs) ∧ Q (.bool x.jump.isNone) (st.H.set i (.loop l (over r x) cs))

/-- A round of a loop with one variable. -/
theorem AY.one {E : Env} (hrnd : E.rnd = true) {l i p : Nat} {r : Loop} {σ : Nat → A} {v : A} {H : Heap} {Q : A → Heap → Prop} {assign body : Code}
    (hi : H[i]? = some (.loop l r (tmpsOf E.n σ))) (hst : r.state = .ready) (hps : r.params = #[p]) (hp : p < E.n) (ha : r.assign = assign) (hb : r.body = body)
    (h : AW E assign (thenQ (fun st1 => st1.H[i]? = some (.loop l r (tmpsOf E.n σ)) ∧ AW E body (endQ i l r (tmpsOf E.n σ) Q) ⟨st1.σ, st1.H.set i (.loop l (busy r) (tmpsOf E.n σ))⟩) (fun _ _ => False))
      ⟨upd (fun t => if t < E.n then lv (σ t) else .undef ()) p v, H⟩) : AY E.P l [v] H Q := by
  refine AY.of_body hrnd hi (tmpsOf_length _ _).symm hst (by rw [hps]; rfl) (tmpsOf_flagless _ _) ?_
  subst ha; subst hb
  have hσ : (fun t => (setL r.params.toList [v] (tmpsOf E.n σ)).getD t (.undef ())) = upd (fun t => if t < E.n then lv (σ t) else .undef ()) p v := by
    funext t
    rw [hps]
    simp only [setL, upd, ← tmpsOf_getD]
    simp only [List.getD_eq_getElem?_getD, List.getElem?_set, tmpsOf_length]
    by_cases h : p = t
    · subst h; rw [if_pos rfl, if_pos hp, if_pos rfl]; rfl
    · rw [if_neg h, if_neg (fun e => h e.symm)]
  rw [hσ]
  refine h.mono fun x st => ?_
  cases x with
  | normal =>
    rintro ⟨h1, h2⟩
    exact ⟨h1, h2.mono fun x st ⟨h1, h2⟩ => ⟨_, _, h1, h2⟩⟩
  | exit n => exact fun h => h
  | goto l => exact fun h => h
  | ret => exact fun h => h

theorem AW.gen {E : Env} {c : Code} {Q : X → St → Prop} {st : St} (I : St → Prop) (h0 : I st) (h : ∀ st, I st → AW E c Q st) : AW E c Q st := h st h0
/-- A loop, and what holds where it is left. -/
theorem AW.loop2 {E : Env} {c : Code} {Q : X → St → Prop} {st : St} (I : St → Prop) (μ : St → Nat) (J : X → St → Prop) (h0 : I st) (hr : ∀ st, I st → AW E c (thenQ (fun st' => I st' ∧ μ st' < μ st) J) st)
    (hJ : ∀ x st, J x st → Q x st) : AW E (.loop c) Q st := (AW.loop I μ h0 hr).mono hJ
/-- A slot's right is given up. -/
theorem AW.strip {E : Env} (t : Tmp) {c : Code} {Q : X → St → Prop} {st : St} (h : AW E c Q ⟨upd st.σ t (st.σ t).strip, st.H⟩) : AW E c Q st := by
  intro fr g vs Hs a w hrd hR hA
  cases hv : vs[t]? with
  | none =>
    have hu : st.σ t = .undef () := by rw [hA.σ t, List.getD_eq_getElem?_getD, hv]; rfl
    have : (⟨upd st.σ t (st.σ t).strip, st.H⟩ : St) = st := by
      have hσ : upd st.σ t (st.σ t).strip = st.σ := by
        funext i; unfold upd; split
        · rename_i e; subst e; rw [hu]; rfl
        · rfl
      rw [hσ]
    rw [this] at h
    exact h fr g vs Hs a w hrd hR hA
  | some v =>
    have hlt := (List.getElem?_eq_some_iff.1 hv).1
    have hσv : st.σ t = v.er := by rw [hA.σ t, List.getD_eq_getElem?_getD, hv]; rfl
    obtain ⟨F, hF⟩ := hR.copy hv
    have hP := hF.put t
    refine h fr ⟨g.φ, F⟩ _ Hs a w hrd hP ⟨by simpa using hA.len, ?_, ?_, hA.H, hA.df⟩
    · rw [hA.tm]
      congr 1
      apply List.ext_getElem?
      intro j
      simp only [List.getElem?_map, List.getElem?_set, List.length_set]
      by_cases hj : t = j
      · subst hj; rw [if_pos rfl, if_pos hlt, hv, Option.map_some, Option.map_some, conc_strip]
      · rw [if_neg hj, if_neg hj]
    · intro j
      simp only [upd, List.getD_eq_getElem?_getD, List.getElem?_set, List.length_set]
      by_cases hj : t = j
      · subst hj; rw [if_pos rfl, if_pos rfl, if_pos hlt, hσv, ← er_strip]; rfl
      · rw [if_neg (fun e => hj e.symm), if_neg hj, if_neg hj, hA.σ j, List.getD_eq_getElem?_getD]
@[congr] theorem AY_cg {P : Program} {l : Nat} {x y : List A} {H H' : Heap} {Q : A → Heap → Prop} {dm : Prop} (dd : Dum = dm) (h : Idw x = y) (h' : Idw H = H') : AY P l x H Q = AY P l y H' Q := by rw [Idw_eq] at h h'; rw [h, h']
attribute [go_sem] envR X.jump endQ
end Go.Ab
end
