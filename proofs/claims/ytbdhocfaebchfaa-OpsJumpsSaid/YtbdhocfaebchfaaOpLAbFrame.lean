/- Abstract values and rules for them, proved sound over the model. -/
import Derived.Test.YtbdhocfaebchfaaOpLAbDraw
set_option linter.all false
set_option linter.unusedSimpArgs false
set_option linter.unusedVariables false
set_option linter.unnecessarySimpa false
section
/- An operation neither sees nor changes a slot that it does not name. -/
namespace Go.Ab
open V
variable [Glob]
set_option linter.unusedSimpArgs false
set_option linter.unusedVariables false

/-- Two states are alike outside of some slots. -/
def Agr (D : Nat → Prop) (s f : St) : Prop := s.H = f.H ∧ ∀ t, ¬ D t → s.σ t = f.σ t

def OAgr {α : Type} (D : Nat → Prop) : Option (α × St) → Option (α × St) → Prop
  | some a, some b => a.1 = b.1 ∧ Agr D a.2 b.2
  | none, none => True
  | _, _ => False

section
variable {D : Nat → Prop} {s f : St} {E : Env}

theorem Agr.upd (h : Agr D s f) (t : Nat) (v : A) : Agr D { s with σ := upd s.σ t v } { f with σ := upd f.σ t v } := by
  refine ⟨h.1, fun u hu => ?_⟩
  simp only [Go.Ab.upd]
  split
  · rfl
  · exact h.2 u hu

theorem Agr.heap (h : Agr D s f) (H : Heap) : Agr D { s with H := H } { f with H := H } := ⟨rfl, h.2⟩

theorem ev_frame (h : Agr D s f) {x : Operand} (hx : ∀ t, x = .tmp t → ¬ D t) : ev s x = ev f x := by
  cases x with
  | tmp t => exact h.2 t (hx t rfl)
  | _ => rfl

theorem use_frame (h : Agr D s f) {x : Operand} (hx : ∀ t, x = .tmp t → ¬ D t) : (use x s).1 = (use x f).1 ∧ Agr D (use x s).2 (use x f).2 := by
  cases x with
  | tmp t =>
    have := h.2 t (hx t rfl)
    simp only [use, this]
    split
    · exact ⟨rfl, h⟩
    · exact ⟨rfl, h.upd _ _⟩
  | _ => exact ⟨rfl, h⟩

theorem copyOf_frame (h : Agr D s f) {x : Operand} (hx : ∀ t, x = .tmp t → ¬ D t) : (copyOf x s).1 = (copyOf x f).1 ∧ Agr D (copyOf x s).2 (copyOf x f).2 := by
  cases x with
  | tmp t =>
    have := h.2 t (hx t rfl)
    simp only [copyOf, this]
    split
    · exact ⟨rfl, h⟩
    · exact ⟨rfl, h.upd _ _⟩
  | _ => exact ⟨rfl, h⟩

theorem useL_frame : ∀ (l : List Operand) (s f : St), Agr D s f → (∀ x ∈ l, ∀ t, x = .tmp t → ¬ D t) → (useL l s).1 = (useL l f).1 ∧ Agr D (useL l s).2 (useL l f).2 := by
  intro l
  induction l with
  | nil => intro s f h _; exact ⟨rfl, h⟩
  | cons x l ih =>
    intro s f h hx
    obtain ⟨h1, h2⟩ := use_frame h (hx x (by simp))
    obtain ⟨h3, h4⟩ := ih _ _ h2 fun y hy => hx y (by simp [hy])
    simp only [useL]
    exact ⟨by rw [h1, h3], h4⟩

theorem put_frame (h : Agr D s f) (dst : Option Tmp) (v : A) : match put E dst v s, put E dst v f with | some a, some b => Agr D a b | none, none => True | _, _ => False := by
  cases dst with
  | none => exact h
  | some d =>
    simp only [put]
    by_cases hd : d < E.n
    · simp only [hd, if_true]; exact h.upd _ _
    · simp only [hd, if_false]

theorem fill_frame {place : Nat → Option (Nat × Nat)} : ∀ (l : List (Nat × Operand)) (cs : List A) (s f : St), Agr D s f → (∀ p ∈ l, ∀ t, p.2 = .tmp t → ¬ D t) → OAgr D (fillA place cs l s) (fillA place cs l f) := by
  intro l
  induction l with
  | nil => intro cs s f h _; exact ⟨rfl, h⟩
  | cons p l ih =>
    intro cs s f h hx
    obtain ⟨i, x⟩ := p
    obtain ⟨h1, h2⟩ := use_frame h (hx (i, x) (by simp))
    simp only [fillA]
    cases hp : place i with
    | none => exact trivial
    | some q =>
      obtain ⟨o, n⟩ := q
      simp only [h1]
      split
      · exact ih _ _ _ h2 fun p hp => hx p (by simp [hp])
      · exact trivial

theorem elems_frame {size : Nat} : ∀ (l : List (Nat × Operand)) (xs : List A) (s f : St), Agr D s f → (∀ p ∈ l, ∀ t, p.2 = .tmp t → ¬ D t) → OAgr D (elemsA size xs l s) (elemsA size xs l f) := by
  intro l
  induction l with
  | nil => intro cs s f h _; exact ⟨rfl, h⟩
  | cons p l ih =>
    intro xs s f h hx
    obtain ⟨i, x⟩ := p
    obtain ⟨h1, h2⟩ := use_frame h (hx (i, x) (by simp))
    simp only [elemsA, h1]
    split
    · exact ih _ _ _ h2 fun p hp => hx p (by simp [hp])
    · exact trivial

theorem OAgr.map {α β : Type} {a b : Option (α × St)} (h : OAgr D a b) (g : α → β) : OAgr D (a.map fun r => (g r.1, r.2)) (b.map fun r => (g r.1, r.2)) := by
  cases a <;> cases b <;> simp only [OAgr, Option.map_some, Option.map_none] at h ⊢
  exact ⟨by rw [h.1], h.2⟩

theorem opA_frame (h : Agr D s f) {o : Op} (hop : ∀ t, Operand.tmp t ∈ o.operands → ¬ D t) (dst : Option Tmp) : OAgr D (opA E dst o s) (opA E dst o f) := by
  have he : ∀ x ∈ o.operands, ev s x = ev f x := fun x hx => ev_frame h fun t ht => hop t (ht ▸ hx)
  have hH := h.1
  unfold opA
  split
  · rename_i x
    have hx : ∀ t, x = .tmp t → ¬ D t := fun t ht => hop t (by simp [Op.operands, ht])
    split
    · exact use_frame h hx
    · exact copyOf_frame h hx
  · rename_i x
    exact use_frame h fun t ht => hop t (by simp [Op.operands, ht])
  · rename_i t x
    simp only [Op.operands] at he
    have hx := he x (by simp)
    simp only [loadA, hx, hH]
    split
    · exact trivial
    · rename_i u hu
      split
      · rename_i cs hq
        cases partA u cs 0 with
        | none => exact trivial
        | some v => exact ⟨rfl, h⟩
      · rename_i p hq
        split
        · rename_i cs hc
          cases hpa : partA u cs p.2 with
          | none => exact trivial
          | some v =>
            simp only
            split
            · exact ⟨rfl, h⟩
            · split
              · exact ⟨rfl, h.heap _⟩
              · exact ⟨rfl, h.heap _⟩
        · exact trivial
      · exact trivial
  · rename_i t x v
    simp only [Op.operands] at he hop
    have hx := he x (by simp)
    obtain ⟨h1, h2⟩ := use_frame h (x := v) fun t ht => hop t (by simp [ht])
    have h3 := h2.1
    simp only [storeA, hx]
    cases hu : E.T t with
    | none => exact trivial
    | some u =>
      simp only
      generalize use v s = a at h1 h2 h3 ⊢
      generalize use v f = b at h1 h2 h3 ⊢
      obtain ⟨a1, a2⟩ := a
      obtain ⟨b1, b2⟩ := b
      simp only at h1 h2 h3
      subst h1
      cases hev : ev f x with
      | ptr q =>
        cases q with
        | none => exact trivial
        | some p =>
          simp only [h3]
          split
          · split
            · exact ⟨rfl, h2.heap _⟩
            · exact trivial
          · exact trivial
      | _ => exact trivial
  · rename_i t
    simp only [allocA, hH]
    split
    · split
      · exact ⟨rfl, h.heap _⟩
      · exact trivial
    · exact trivial
  · rename_i t v
    simp only [Op.operands] at hop
    obtain ⟨h1, h2⟩ := use_frame h (x := v) fun t ht => hop t (by simp [ht])
    have h3 := h2.1
    simp only [boxA]
    generalize use v s = a at h1 h2 h3 ⊢
    generalize use v f = b at h1 h2 h3 ⊢
    obtain ⟨a1, a2⟩ := a
    obtain ⟨b1, b2⟩ := b
    simp only at h1 h2 h3
    subst h1
    cases hu : E.T t with
    | none => exact trivial
    | some u =>
      simp only [h3]
      split
      · exact ⟨rfl, h2.heap _⟩
      · exact trivial
  · rename_i t ps
    simp only [Op.operands] at hop
    simp only [buildA]
    cases hu : E.T t with
    | none => exact trivial
    | some u =>
      simp only
      split
      · exact OAgr.map (fill_frame _ _ _ _ h fun p hp t ht => hop t (by rw [← ht]; exact List.mem_toArray.2 (List.mem_map.2 ⟨p, hp, rfl⟩))) _
      · exact trivial
  · rename_i t n ps
    simp only [Op.operands] at hop
    simp only [buildSliceA]
    split
    · split
      · split
        · exact OAgr.map (elems_frame _ _ _ _ h fun p hp t ht => hop t (by rw [← ht]; exact List.mem_toArray.2 (List.mem_map.2 ⟨p, hp, rfl⟩))) (fun xs => V.sl xs (some 0) ())
        · exact trivial
      · exact trivial
    · exact trivial
  · rename_i t l c
    simp only [Op.operands] at he
    simp only [makeSliceA, he l (by simp), he c (by simp)]
    split
    · split
      · split
        · exact ⟨rfl, h⟩
        · exact trivial
      · exact trivial
    · exact trivial
  · rename_i x i
    simp only [Op.operands] at he
    cases x with
    | tmp t =>
      have hx : s.σ t = f.σ t := he (.tmp t) (by simp)
      simp only [extractA, hx]
      split
      · split
        · split
          · exact ⟨rfl, h⟩
          · exact ⟨rfl, h.upd _ _⟩
        · exact trivial
      · exact trivial
    | _ => exact trivial
  · rename_i args ts
    simp only [Op.operands, Call.operands] at hop
    split
    · rename_i a b t tx ha ht
      have hma : a ∈ args := by have : a ∈ args.toList := by rw [ha]; simp
                                simpa using this
      have hmb : b ∈ args := by have : b ∈ args.toList := by rw [ha]; simp
                                simpa using this
      obtain ⟨h1, h2⟩ := use_frame h (x := a) fun t ht => hop t (by simp [← ht, hma])
      simp only [appendA]
      split
      · split
        · rename_i u hu
          generalize use a s = p at h1 h2 ⊢
          generalize use a f = q at h1 h2 ⊢
          obtain ⟨p1, p2⟩ := p
          obtain ⟨q1, q2⟩ := q
          simp only at h1 h2
          subst h1
          obtain ⟨h3, h4⟩ := use_frame h2 (x := b) fun t ht => hop t (by simp [← ht, hmb])
          cases p1 with
          | sl xs own d =>
            cases own with
            | none => exact trivial
            | some k =>
              cases d
              simp only
              generalize use b p2 = r at h3 h4 ⊢
              generalize use b q2 = r' at h3 h4 ⊢
              obtain ⟨r1, r2⟩ := r
              obtain ⟨r1', r2'⟩ := r'
              simp only at h3 h4
              subst h3
              cases r1 with
              | sl ys _ d => cases d; simp only; split <;> first | exact ⟨rfl, h4⟩ | exact trivial
              | str c => simp only; split <;> first | exact ⟨rfl, h4⟩ | exact trivial
              | _ => exact trivial
          | _ => exact trivial
        · exact trivial
      · exact trivial
    · exact trivial
  · rename_i s' d' x
    have hx := he x (by simp [Op.operands])
    rw [hx, hH]
    split
    · exact ⟨rfl, h⟩
    · split
      · exact ⟨rfl, h⟩
      · rw [pureA_congr he]
        cases pureA E (.convert s' d' x) (ev f) with
        | none => exact trivial
        | some v => exact ⟨rfl, h⟩
  · rename_i args ts
    simp only [Op.operands, Call.operands] at he
    split
    · rename_i x y t ty ha ht
      have hmx : x ∈ args := by have : x ∈ args.toList := by rw [ha]; simp
                                simpa using this
      have hmy : y ∈ args := by have : y ∈ args.toList := by rw [ha]; simp
                                simpa using this
      simp only [copyA, he x (by simp [hmx]), he y (by simp [hmy]), hH]
      split
      · split
        · split
          · split
            · exact ⟨rfl, h.heap _⟩
            · exact trivial
          · exact trivial
        · exact trivial
      · exact trivial
    · exact trivial
  · rw [pureA_congr he]
    cases pureA E o (ev f) with
    | none => exact trivial
    | some v => exact ⟨rfl, h⟩

theorem tmp_looks {ops : Array Oper} {o : Oper} {t : Tmp} (h : Operand.tmp t ∈ o.op.operands) : t ∈ looks ops o := by
  simp only [looks, Go.Oper.looksAt, List.mem_append, List.mem_filterMap]
  exact .inl ⟨.tmp t, by simpa using h, rfl⟩

theorem stepA_frame (h : Agr D s f) {ops : Array Oper} {o : Oper} (hl : ∀ t ∈ looks ops o, ¬ D t) : match stepA E o s, stepA E o f with | some a, some b => Agr D a b | none, none => True | _, _ => False := by
  have := opA_frame (E := E) h (o := o.op) (fun t ht => hl t (tmp_looks ht)) o.dst
  unfold stepA
  generalize opA E o.dst o.op s = a at this ⊢
  generalize opA E o.dst o.op f = b at this ⊢
  cases a <;> cases b <;> simp only [OAgr] at this ⊢
  rw [this.1]
  exact put_frame this.2 _ _

/-- One operation, at a state that is alike outside of slots that it does not look at. -/
theorem awl_frame {ops : Array Oper} {o : Oper} {K : St → Prop} (h : Agr D s f) (hl : ∀ t ∈ looks ops o, ¬ D t) (hw : awl E ops [o] K f) : awl E ops [o] (fun s1 => ∃ f1, K f1 ∧ Agr D s1 f1) s := by
  have hwant : wantedA ops o s = wantedA ops o f := wanted_congr fun t ht => h.2 t (hl t ht)
  simp only [awl] at hw ⊢
  rw [hwant]
  cases hq : wantedA ops o f with
  | none => rw [hq] at hw; exact hw
  | some b =>
    rw [hq] at hw
    cases b with
    | false =>
      simp only at hw ⊢
      have := put_frame (E := E) h o.dst (.undef ())
      generalize put E o.dst (.undef ()) s = a at this ⊢
      generalize put E o.dst (.undef ()) f = b at this hw ⊢
      cases a <;> cases b <;> simp only at this hw ⊢
      exact ⟨_, hw, this⟩
    | true =>
      simp only at hw ⊢
      split at hw
      · rename_i c args ts hop
        have hargs : ∀ x ∈ args.toList, ∀ t, x = .tmp t → ¬ D t := fun x hx t ht => hl t (tmp_looks (by rw [hop]; simp only [Op.operands, Call.operands]; subst ht; simp; right; simpa using hx))
        have hc : ev s c = ev f c := ev_frame h fun t ht => hl t (tmp_looks (by rw [hop]; simp [Op.operands, Call.operands, ht]))
        obtain ⟨h1, h2⟩ := useL_frame args.toList s f h hargs
        have h3 := h2.1
        unfold CallA at hw ⊢
        rw [hc]
        split at hw
        · split at hw
          · rename_i hfl
            rw [if_pos hfl, h1, h3]
            refine hw.mono fun r H hr => ?_
            unfold After at hr ⊢
            have := put_frame (E := E) (D := D) (s := ⟨(useL args.toList s).2.σ, H⟩) (f := ⟨(useL args.toList f).2.σ, H⟩) ⟨rfl, h2.2⟩ o.dst (frzA E o.dst r)
            generalize put E o.dst (frzA E o.dst r) ⟨(useL args.toList s).2.σ, H⟩ = a at this ⊢
            generalize put E o.dst (frzA E o.dst r) ⟨(useL args.toList f).2.σ, H⟩ = b at this hr ⊢
            cases a <;> cases b <;> simp only at this hr ⊢
            exact ⟨_, hr, this⟩
          · exact hw.elim
        · rw [h1, h3]
          refine hw.mono fun r H hr => ?_
          unfold After at hr ⊢
          have := put_frame (E := E) (D := D) (s := ⟨(useL args.toList s).2.σ, H⟩) (f := ⟨(useL args.toList f).2.σ, H⟩) ⟨rfl, h2.2⟩ o.dst (frzA E o.dst r)
          generalize put E o.dst (frzA E o.dst r) ⟨(useL args.toList s).2.σ, H⟩ = a at this ⊢
          generalize put E o.dst (frzA E o.dst r) ⟨(useL args.toList f).2.σ, H⟩ = b at this hr ⊢
          cases a <;> cases b <;> simp only at this hr ⊢
          exact ⟨_, hr, this⟩
        · exact hw.elim
      · rename_i hne
        have := stepA_frame (E := E) h (o := o) hl
        generalize stepA E o s = a at this ⊢
        generalize stepA E o f = b at this hw ⊢
        cases a <;> cases b <;> simp only at this hw ⊢
        exact ⟨_, hw, this⟩
end
end Go.Ab
end
