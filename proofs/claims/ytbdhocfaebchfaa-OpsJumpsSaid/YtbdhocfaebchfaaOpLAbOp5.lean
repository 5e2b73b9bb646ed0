/- Abstract values and rules for them, proved sound over the model. -/
import Derived.Test.YtbdhocfaebchfaaOpLAbOp4
set_option linter.all false
set_option linter.unusedSimpArgs false
set_option linter.unusedVariables false
set_option linter.unnecessarySimpa false
section
/- Values that are built; slices of their own. -/
namespace Go.Ab
open V
variable [Glob]
set_option linter.unusedSimpArgs false
set_option linter.unusedVariables false
set_option linter.unusedSectionVars false

theorem putRange_length {α : Type} {cs vs : List α} {o : Nat} (h : o + vs.length ≤ cs.length) : (putRange cs o vs).length = cs.length := by
  simp [putRange]; omega

theorem foldl_set (vs : List Value) : ∀ (c : Array Value) (o : Nat), (vs.zipIdx).foldl (fun cs (p : Value × Nat) => cs.setIfInBounds (o + p.2) p.1) c = setRange c o vs := by
  have key : ∀ (vs : List Value) (c : Array Value) (o n : Nat), ((vs.zipIdx n).foldl (fun cs (p : Value × Nat) => cs.setIfInBounds (o + p.2) p.1) c) = setRange c (o + n) vs := by
    intro vs
    induction vs with
    | nil => intro c o n; rfl
    | cons v vs ih => intro c o n; simp only [List.zipIdx_cons, List.foldl_cons, setRange, ih]; rfl
  intro c o
  simpa using key vs c o 0

theorem fill_step {place : Nat → Option (Nat × Nat)} {cells : Array Value} {i : Nat} {v : Value} {rest : List (Nat × Value)} {off size : Nat}
    (hp : place i = some (off, size)) (hs : v.cells.size = size) (hl : off + v.cells.size ≤ cells.size) :
    Go.Instr.fill place cells ((i, v) :: rest) = Go.Instr.fill place (setRange cells off v.cells.toList) rest := by
  simp only [Go.Instr.fill, hp]
  rw [if_neg (by simp [hs]; omega)]
  congr 1
  rw [← foldl_set, ← Array.foldl_toList]
  simp

section
variable {E : Env} {g : Ghost} {w : World} {fr : Fr} {vs pre : List (V D)} {Hs : List (Ob D)} {st : St} {a : Act} (hE : E.Ok)
include hE

theorem fill_sound {place place' : Nat → Option (Nat × Nat)} (hpl : ∀ i p, place i = some p → place' i = some p) : ∀ (ps : List (Nat × Operand)) (cs : List (V D)) (vs : List (V D)) (st : St) (r : List A) (st1 : St),
    Rel fr g (cs ++ vs) Hs w → At fr E.n g.φ st vs Hs a → (∀ c ∈ cs, solid c = true) → fillA place (cs.map V.er) ps st = some (r, st1) →
    ∃ cs1 vs1, Rel fr g (cs1 ++ vs1) Hs w ∧ At fr E.n g.φ st1 vs1 Hs a ∧ cs1.map V.er = r ∧ (∀ c ∈ cs1, solid c = true) ∧ cs1.length = cs.length ∧
      Go.Instr.fill place' (cs.map (V.conc g.φ)).toArray (ps.map fun p => (p.1, a.eval p.2)) = some (cs1.map (V.conc g.φ)).toArray := by
  intro ps
  induction ps with
  | nil =>
    intro cs vs st r st1 hR hA hs h
    simp only [fillA, Option.some.injEq, Prod.mk.injEq] at h
    obtain ⟨rfl, rfl⟩ := h
    exact ⟨cs, vs, hR, hA, rfl, hs, rfl, rfl⟩
  | cons p ps ih =>
    obtain ⟨i, x⟩ := p
    intro cs vs st r st1 hR hA hs h
    simp only [fillA] at h
    split at h
    · rename_i off size v st' hp huse
      split at h
      · rename_i hcond
        obtain ⟨c1, c2, c3⟩ := hcond
        obtain ⟨sv, vs1, k1, k2, k3, k4⟩ := use_sound hR hA x
        rw [huse] at k2 k3
        simp only at k2 k3
        subst k3
        simp only [List.length_map] at c2
        have hsc := solid_cells (g := g) hE c3
        have hlen : sv.cells.length = size := by rw [← c1, er_cells, List.length_map]
        have k1' : Rel fr g (putRange cs off sv.cells ++ vs1) Hs w := by
          have ks := k1.spread
          refine ks.weaken ?_ ?_ ?_
          · intro c hc
            simp only [putRange, List.mem_append] at hc
            refine ks.mem c ?_
            simp only [List.mem_append]
            rcases hc with ((hc | hc) | hc) | hc
            · exact .inr (.inl (List.mem_of_mem_take hc))
            · exact .inl hc
            · exact .inr (.inl (List.mem_of_mem_drop hc))
            · exact .inr (.inr hc)
          · intro c hc
            simp only [putRange, List.mem_append] at hc
            refine ks.low c ?_
            simp only [List.mem_append]
            rcases hc with ((hc | hc) | hc) | hc
            · exact .inr (.inl (List.mem_of_mem_take hc))
            · exact .inl hc
            · exact .inr (.inl (List.mem_of_mem_drop hc))
            · exact .inr (.inr hc)
          · intro b
            have e : cs = cs.take off ++ ((cs.drop off).take sv.cells.length ++ cs.drop (off + sv.cells.length)) := range_split cs off _ (by omega)
            have e2 : (flL cs).count b = (flL (cs.take off)).count b + ((flL ((cs.drop off).take sv.cells.length)).count b + (flL (cs.drop (off + sv.cells.length))).count b) := by
              conv => lhs; rw [e]
              simp only [flL_append, List.count_append]
            simp only [putRange, flL_append, List.count_append]; omega
        have hsol : ∀ c ∈ putRange cs off sv.cells, solid c = true := by
          intro c hc
          simp only [putRange, List.mem_append] at hc
          rcases hc with (hc | hc) | hc
          · exact hs c (List.mem_of_mem_take hc)
          · exact hsc.2.2 c hc
          · exact hs c (List.mem_of_mem_drop hc)
        have her : (putRange cs off sv.cells).map V.er = putRange (cs.map V.er) off sv.er.cells := by
          simp [putRange, er_cells, List.map_take, List.map_drop]
        obtain ⟨cs1, vs2, r1, r2, r3, r4, r5, r6⟩ := ih (putRange cs off sv.cells) vs1 st' r st1 k1' k2 hsol (by rw [her]; exact h)
        refine ⟨cs1, vs2, r1, r2, r3, r4, by rw [r5, putRange_length (by omega)], ?_⟩
        rw [← r6]
        simp only [List.map_cons]
        rw [fill_step (hpl _ _ hp) (by rw [← k4, hsc.2.1]; simp [hlen]) (by rw [← k4, hsc.2.1]; simp; omega), ← k4, hsc.2.1]
        rw [setRange_putRange _ _ _ _ (by omega)]
      · simp at h
    · simp at h

theorem solid_lift {v : A} : solid (lift v) = solid v := by cases v <;> rfl

theorem zero_cells {u : Ty} {z : Value} (hz : Still (lift u.zero) z) (hs : u.zero.cells.all solid = true) : z.cells = ((lift u.zero).cells.map (V.conc g.φ)).toArray ∧ (lift u.zero).cells.map V.er = u.zero.cells ∧ ∀ c ∈ (lift u.zero).cells, solid c = true := by
  have hsc := solid_cells (g := g) hE (v := lift u.zero) (by rw [lift_er]; exact hs)
  exact ⟨by rw [← hsc.2.1, hz.conc], by rw [← er_cells, lift_er], hsc.2.2⟩

theorem mapM_places {P : Program} (gs : List Field) (hgs : ∀ f ∈ gs, ∃ u, E.T f.type = some u) : ∃ l : List (Nat × Nat),
    ((gs.mapM fun f => (do pure (f.offset, ← sizeOf f.type) : Sem (Nat × Nat))).run E.P w = .ok l w) ∧ l = gs.map fun f => (f.offset, match E.T f.type with | some u => u.size | none => 0) := by
  induction gs with
  | nil => exact ⟨[], rfl, rfl⟩
  | cons f gs ih =>
    obtain ⟨l, h1, h2⟩ := ih (fun f hf => hgs f (by simp [hf]))
    obtain ⟨u, hu⟩ := hgs f (by simp)
    refine ⟨(f.offset, u.size) :: l, ?_, by simp [hu, h2]⟩
    rw [List.mapM_cons]
    rw [run_bind (show (do pure (f.offset, ← sizeOf f.type) : Sem (Nat × Nat)).run E.P w = .ok (f.offset, u.size) w by rw [run_bind (run_sizeOf hE hu w)]; rfl)]
    rw [run_bind h1]
    rfl

theorem build_sound (hR : Rel fr g vs Hs w) (hA : At fr E.n g.φ st vs Hs a) {t : TypeId} {ps : List (Nat × Operand)} {r : A} {st1 : St}
    (h : buildA E t ps st = some (r, st1)) : OpOk E fr [] a w r st1 (Go.Instr.build t (ps.map fun p => (p.1, a.eval p.2)).toArray) := by
  unfold buildA at h
  split at h
  · rename_i u hT
    split at h
    · rename_i hagg
      obtain ⟨hagg, hsol, hall⟩ := hagg
      obtain ⟨⟨cs, st'⟩, hf, he⟩ := Option.map_eq_some_iff.1 h
      simp only [Prod.mk.injEq] at he
      obtain ⟨rfl, rfl⟩ := he
      obtain ⟨z, hz, hzr⟩ := zero_run hE hT w
      obtain ⟨z1, z2, z3⟩ := zero_cells (g := g) hE hz hsol
      have hR0 : Rel fr g ((lift u.zero).cells ++ vs) Hs w := (hR.cons (hz.mem _ _) (hz.low _) hz.fl).spread
      rw [← z2] at hf
      -- where the parts lie
      have hd := (hE t u hT).desc
      have hund := (hE t u hT).und
      cases hu : E.P.underlying t with
      | none => rw [hu] at hund; simp at hund
      | some d =>
        rw [hu] at hd
        have hrun : ∀ place', (∀ i p, placeA E.T u.d i = some p → place' i = some p) → ∃ cs1 vs1, Rel fr g (cs1 ++ vs1) Hs w ∧ At fr E.n g.φ st' vs1 Hs a ∧ cs1.map V.er = cs ∧ (∀ c ∈ cs1, solid c = true) ∧
            Go.Instr.fill place' z.cells (ps.map fun p => (p.1, a.eval p.2)) = some (cs1.map (V.conc g.φ)).toArray := by
          intro place' hp
          obtain ⟨cs1, vs1, r1, r2, r3, r4, r5, r6⟩ := fill_sound hE hp ps _ vs st cs st' hR0 hA z3 hf
          exact ⟨cs1, vs1, r1, r2, r3, r4, by rw [z1]; exact r6⟩
        have hfin : ∀ cs1 vs1, Rel fr g (cs1 ++ vs1) Hs w → Rel fr g (.agg cs1 :: vs1) Hs w := fun cs1 vs1 hr => hr.weaken
          (fun v hv => by
            rcases List.mem_cons.1 hv with rfl | hv
            · simp only [Mem, MemL_all]; exact fun c hc => hr.mem c (by simp [hc])
            · exact hr.mem v (by simp [hv]))
          (fun v hv => by
            rcases List.mem_cons.1 hv with rfl | hv
            · simp only [V.low, lowL_all, List.all_eq_true]; exact fun c hc => hr.low c (by simp [hc])
            · exact hr.low v (by simp [hv]))
          (fun b => by simp only [flL, fl, flL_append, List.count_append]; omega)
        cases hud : u.d <;> rw [hud] at hagg hd <;> simp only [TyD.agg, Bool.false_eq_true] at hagg
        · -- a struct
          rename_i fs
          have : ∃ gs, d = .struct gs ∧ fs = gs.toList.map fun f => (f.offset, f.type) := by
            unfold tyOf at hd; split at hd <;> simp_all
          obtain ⟨gs, rfl, rfl⟩ := this
          have hgs : ∀ f ∈ gs.toList, ∃ u, E.T f.type = some u := by
            intro f hf
            rw [hud] at hall
            simp only [partsOk, List.all_eq_true, List.mem_map, forall_exists_index, and_imp, forall_apply_eq_imp_iff₂] at hall
            exact Option.isSome_iff_exists.1 (hall f hf)
          obtain ⟨l, hl1, hl2⟩ := mapM_places (w := w) hE (P := E.P) gs.toList hgs
          obtain ⟨cs1, vs1, r1, r2, r3, r4, r6⟩ := hrun (fun i => l.toArray[i]?) (by
            intro i p hp
            rw [hud] at hp
            simp only [placeA, List.getElem?_map] at hp
            split at hp
            · rename_i q hq
              obtain ⟨f, hf, rfl⟩ := Option.map_eq_some_iff.1 hq
              obtain ⟨u', hu', rfl⟩ := Option.map_eq_some_iff.1 hp
              rw [hl2]
              simp [hf, hu']
            · simp at hp)
          refine ⟨g, .agg cs1, vs1, Hs, w, hfin cs1 vs1 r1, r2, by simp [V.er, erL_map, r3], ?_⟩
          simp only [Go.Instr.build]
          rw [run_bind hzr, run_bind (run_underlying hu w)]
          simp only []
          rw [run_bind (show (gs.mapM fun f => (do pure (f.offset, ← sizeOf f.type) : Sem (Nat × Nat))).run E.P w = .ok l.toArray w by
            rw [← Array.toArray_toList (xs := gs), List.mapM_toArray]
            show ((gs.toList.mapM fun f => (do pure (f.offset, ← sizeOf f.type) : Sem (Nat × Nat))) >>= fun l => pure l.toArray).run E.P w = _
            rw [run_bind hl1]; rfl)]
          rw [r6]
          simp [Sem.run, Pure.pure, V.conc, concL_map]
        · -- an array
          rename_i m e
          have : d = .array m e := by unfold tyOf at hd; split at hd <;> simp_all
          subst this
          rw [hud] at hall
          simp only [partsOk] at hall
          obtain ⟨ue, hue⟩ := Option.isSome_iff_exists.1 hall
          obtain ⟨cs1, vs1, r1, r2, r3, r4, r6⟩ := hrun (fun i => some (i * ue.size, ue.size)) (by
            intro i p hp
            rw [hud] at hp
            simp only [placeA, hue, Option.map_some] at hp
            exact hp)
          refine ⟨g, .agg cs1, vs1, Hs, w, hfin cs1 vs1 r1, r2, by simp [V.er, erL_map, r3], ?_⟩
          simp only [Go.Instr.build]
          rw [run_bind hzr, run_bind (run_underlying hu w)]
          simp only []
          rw [run_bind (run_sizeOf hE hue w)]
          rw [r6]
          simp [Sem.run, Pure.pure, V.conc, concL_map]
    · simp at h
  · simp at h
end
end Go.Ab
end
