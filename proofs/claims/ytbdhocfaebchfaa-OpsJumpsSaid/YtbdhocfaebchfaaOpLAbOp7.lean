/- Abstract values and rules for them, proved sound over the model. -/
import Derived.Test.YtbdhocfaebchfaaOpLAbOp6
set_option linter.all false
set_option linter.unusedSimpArgs false
set_option linter.unusedVariables false
set_option linter.unnecessarySimpa false
section
/- Slices: built, made, appended to: the operations. -/
namespace Go.Ab
open V
variable [Glob]
set_option linter.unusedSimpArgs false
set_option linter.unusedVariables false
set_option linter.unusedSectionVars false

theorem flat_set {δ : Type} {s : Nat} : ∀ (xs : List (V δ)) (i : Nat) (v : V δ), Uni s xs = true → i < xs.length → v.cells.length = s →
    flat (xs.set i v) = putRange (flat xs) (i * s) v.cells := by
  intro xs
  induction xs with
  | nil => intro i v _ h; simp at h
  | cons x xs ih =>
    intro i v hU hi hv
    simp only [Uni, List.all_cons, Bool.and_eq_true, beq_iff_eq] at hU
    cases i with
    | zero => simp [putRange, flat_cons, hv, hU.1]
    | succ i =>
      simp only [List.length_cons] at hi
      simp only [List.set_cons_succ, flat_cons]
      rw [ih i v hU.2 (by omega) hv]
      have e1 : (x.cells ++ flat xs).take ((i + 1) * s) = x.cells ++ (flat xs).take (i * s) := by
        rw [List.take_append, List.take_of_length_le (l := x.cells) (by rw [hU.1, Nat.succ_mul]; omega), hU.1]
        congr 2; rw [Nat.succ_mul]; omega
      have e2 : (x.cells ++ flat xs).drop ((i + 1) * s + v.cells.length) = (flat xs).drop (i * s + v.cells.length) := by
        rw [List.drop_append, List.drop_of_length_le (l := x.cells) (by rw [hU.1, Nat.succ_mul]; omega), hU.1, List.nil_append]
        congr 1; rw [Nat.succ_mul]; omega
      simp only [putRange, e1, e2, List.append_assoc]

theorem Uni_set {δ : Type} {s : Nat} {xs : List (V δ)} {i : Nat} {v : V δ} (h : Uni s xs = true) (hv : v.cells.length = s) : Uni s (xs.set i v) = true := by
  simp only [Uni, List.all_eq_true, beq_iff_eq] at h ⊢
  intro x hx
  rcases List.mem_or_eq_of_mem_set hx with hx | rfl
  · exact h x hx
  · exact hv

theorem zeros_eq (f : Nat → Nat) (zv : V D) (n s : Nat) (hs : zv.cells.length = s) (hpos : 0 < s) :
    ((Array.range (n * s)).map fun i => ((zv.cells.map (V.conc f)).toArray)[i % s]!) = ((flat (List.replicate n zv)).map (V.conc f)).toArray := by
  have hU : Uni s (List.replicate n zv) = true := by simp [Uni, hs]
  apply Array.ext'
  apply List.ext_getElem?
  intro i
  simp only [Array.toList_map, Array.toList_range, List.getElem?_map]
  by_cases hi : i < n * s
  · have hd : i / s < n := by rw [Nat.div_lt_iff_lt_mul hpos]; exact hi
    have hm : i % s < s := Nat.mod_lt _ hpos
    have hg : (List.replicate n zv)[i / s]? = some zv := by simp [hd]
    have hfg := flat_get hU hg hm
    rw [Nat.div_mul_cancel_add_mod] at hfg
    rw [hfg]
    simp only [List.getElem?_range hi, Option.map_some]
    have : zv.cells[i % s]? = some (zv.cells[i % s]'(by omega)) := List.getElem?_eq_getElem (by omega)
    rw [this]
    simp [hs, hm]
  · have h1 : (List.range (n * s))[i]? = none := by simp; omega
    have h2 : (flat (List.replicate n zv))[i]? = none := by
      rw [List.getElem?_eq_none]; rw [flat_length hU]; simpa using Nat.le_of_not_lt hi
    rw [h1, h2]; rfl
where Nat.div_mul_cancel_add_mod {i s : Nat} : i / s * s + i % s = i := by rw [Nat.mul_comm]; exact Nat.div_add_mod i s

section
variable {E : Env} {g : Ghost} {w : World} {fr : Fr} {vs pre : List (V D)} {Hs : List (Ob D)} {st : St} {a : Act} (hE : E.Ok)
include hE

theorem elems_sound {size : Nat} : ∀ (ps : List (Nat × Operand)) (xs : List (V D)) (vs : List (V D)) (st : St) (r : List A) (st1 : St),
    Rel fr g (xs ++ vs) Hs w → At fr E.n g.φ st vs Hs a → Uni size xs = true → (∀ x ∈ xs, ∀ c ∈ x.cells, solid c = true) → elemsA size (xs.map V.er) ps st = some (r, st1) →
    ∃ xs1 vs1, Rel fr g (xs1 ++ vs1) Hs w ∧ At fr E.n g.φ st1 vs1 Hs a ∧ xs1.map V.er = r ∧ Uni size xs1 = true ∧ (∀ x ∈ xs1, ∀ c ∈ x.cells, solid c = true) ∧ xs1.length = xs.length ∧
      Go.Instr.fill (fun i => some (i * size, size)) ((flat xs).map (V.conc g.φ)).toArray (ps.map fun p => (p.1, a.eval p.2)) = some ((flat xs1).map (V.conc g.φ)).toArray := by
  intro ps
  induction ps with
  | nil =>
    intro xs vs st r st1 hR hA hU hs h
    simp only [elemsA, Option.some.injEq, Prod.mk.injEq] at h
    obtain ⟨rfl, rfl⟩ := h
    exact ⟨xs, vs, hR, hA, rfl, hU, hs, rfl, rfl⟩
  | cons p ps ih =>
    obtain ⟨i, x⟩ := p
    intro xs vs st r st1 hR hA hU hs h
    simp only [elemsA] at h
    obtain ⟨sv, vs1, k1, k2, k3, k4⟩ := use_sound hR hA x
    rw [← k3] at h
    split at h
    · rename_i hcond
      obtain ⟨c1, c2, c3⟩ := hcond
      simp only [List.length_map] at c2
      have hsc := solid_cells (g := g) hE c3
      have hlen : sv.cells.length = size := by rw [← c1, er_cells, List.length_map]
      have hget : xs[i]? = some xs[i] := by simp [c2]
      have k1' : Rel fr g (xs.set i sv ++ vs1) Hs w := by
        refine k1.weaken ?_ ?_ ?_
        · intro c hc
          rcases List.mem_append.1 hc with hc | hc
          · rcases List.mem_or_eq_of_mem_set hc with hc | rfl
            · exact k1.mem c (by simp [hc])
            · exact k1.mem _ (by simp)
          · exact k1.mem c (by simp [hc])
        · intro c hc
          rcases List.mem_append.1 hc with hc | hc
          · rcases List.mem_or_eq_of_mem_set hc with hc | rfl
            · exact k1.low c (by simp [hc])
            · exact k1.low _ (by simp)
          · exact k1.low c (by simp [hc])
        · intro b
          have := count_set b sv xs[i] xs i hget
          simp only [flL_append, flL, List.count_append]; omega
      have her : (xs.set i sv).map V.er = (xs.map V.er).set i sv.er := by rw [List.map_set]
      obtain ⟨xs1, vs2, r1, r2, r3, r4, r5, r6, r7⟩ := ih (xs.set i sv) vs1 _ r st1 k1' k2 (Uni_set hU hlen) (by
        intro y hy
        rcases List.mem_or_eq_of_mem_set hy with hy | rfl
        · exact hs y hy
        · exact hsc.2.2) (by rw [her]; exact h)
      refine ⟨xs1, vs2, r1, r2, r3, r4, r5, by rw [r6]; simp, ?_⟩
      rw [← r7]
      simp only [List.map_cons]
      have hmul : (i + 1) * size ≤ xs.length * size := Nat.mul_le_mul_right _ c2
      rw [Nat.succ_mul] at hmul
      have hfl : (flat xs).length = xs.length * size := flat_length hU
      rw [fill_step (off := i * size) (size := size) rfl (by rw [← k4, hsc.2.1]; simp [hlen]) (by rw [← k4, hsc.2.1]; simp; omega), ← k4, hsc.2.1]
      rw [flat_set xs i sv hU c2 hlen, setRange_putRange _ _ _ _ (by omega)]
    · simp at h

theorem ones_of_solid {xs : List (V D)} (hs : ∀ x ∈ xs, ∀ c ∈ x.cells, solid c = true) : ∀ c ∈ flat xs, solid c = true := by
  intro c hc
  obtain ⟨x, hx, hcx⟩ := List.mem_flatMap.1 hc
  exact hs x hx c hcx

theorem buildSlice_sound (hR : Rel fr g vs Hs w) (hA : At fr E.n g.φ st vs Hs a) {t : TypeId} {len : Nat} {ps : List (Nat × Operand)} {r : A} {st1 : St}
    (h : buildSliceA E t len ps st = some (r, st1)) : OpOk E fr [] a w r st1 (Go.Instr.buildSlice t len (ps.map fun p => (p.1, a.eval p.2)).toArray) := by
  unfold buildSliceA at h
  split at h
  · rename_i e hd
    split at h
    · rename_i u hT
      split at h
      · rename_i hcond
        obtain ⟨c1, c2, c3, c4⟩ := hcond
        obtain ⟨⟨xs, st'⟩, hf, he⟩ := Option.map_eq_some_iff.1 h
        simp only [Prod.mk.injEq] at he
        obtain ⟨rfl, rfl⟩ := he
        obtain ⟨z, hz, hzr⟩ := zero_run hE hT w
        obtain ⟨z1, z2, z3⟩ := zero_cells (g := g) hE hz c4
        have hzl : (lift u.zero).cells.length = u.size := by rw [← c3, ← z2, List.length_map]
        have hR0 : Rel fr g (List.replicate len (lift u.zero) ++ vs) Hs w := by
          refine hR.weaken ?_ ?_ ?_
          · intro v hv
            rcases List.mem_append.1 hv with hv | hv
            · rw [(List.mem_replicate.1 hv).2]; exact hz.mem _ _
            · exact hR.mem v hv
          · intro v hv
            rcases List.mem_append.1 hv with hv | hv
            · rw [(List.mem_replicate.1 hv).2]; exact hz.low _
            · exact hR.low v hv
          · intro b
            have : flL (List.replicate len (lift u.zero)) = [] := by
              rw [flL_flatMap, List.flatMap_eq_nil_iff]; intro v hv; rw [(List.mem_replicate.1 hv).2]; exact hz.fl
            rw [flL_append, this, List.nil_append]; exact Nat.le_refl _
        have hU0 : Uni u.size (List.replicate len (lift u.zero)) = true := by simp [Uni, hzl]
        have her0 : (List.replicate len (lift u.zero)).map V.er = List.replicate len u.zero := by simp [lift_er]
        obtain ⟨xs1, vs1, r1, r2, r3, r4, r5, r6, r7⟩ := elems_sound hE ps _ vs st xs st' hR0 hA hU0 (by
          intro x hx; rw [(List.mem_replicate.1 hx).2]; exact z3) (by rw [her0]; exact hf)
        simp only [List.length_replicate] at r6
        obtain ⟨F, hF⟩ := r1.newSlice (own := some 0) (es := u.size) (cap := len) (rest := #[]) (ty := e) r4 c1 (ones_of_solid hE r5) (by omega) (by simp [r6]) ⟨Nat.zero_le _, fun hx => by rw [hx] at r6; simpa using r6.symm⟩
        refine ⟨⟨g.φ, F⟩, _, vs1, Hs, _, hF, r2, by simp [V.er, erL_map, r3], ?_⟩
        simp only [Go.Instr.buildSlice]
        rw [run_bind (run_underlying (und_sl hE hd) w)]
        simp only []
        rw [run_bind (run_sizeOf hE hT w), if_neg (by omega)]
        have hz0 : len * u.size = 0 → (Array.range (len * u.size)).map (fun i => (#[] : Array Value)[i % (#[] : Array Value).size]!) = ((flat (List.replicate len (lift u.zero))).map (V.conc g.φ)).toArray := fun h0 => by
          have hl0 : len = 0 := (Nat.mul_eq_zero.1 h0).resolve_right (by omega)
          rw [hl0]; simp [flat]
        have hz1 : (Array.range (len * u.size)).map (fun i => z.cells[i % z.cells.size]!) = ((flat (List.replicate len (lift u.zero))).map (V.conc g.φ)).toArray := by
          rw [z1]
          have : ((lift u.zero).cells.map (V.conc g.φ)).toArray.size = u.size := by simp [hzl]
          rw [this, zeros_eq _ _ _ _ hzl c1]
        by_cases h0 : len * u.size = 0
        · rw [if_pos h0, run_bind (pure_run _ _), hz0 h0]
          rw [r7]
          simp only [newRow, newObj, Array.append_empty]
          simp only [V.conc, Option.map_some, r6]
          rfl
        · rw [if_neg h0, run_bind hzr, run_bind (pure_run _ _), hz1]
          rw [r7]
          simp only [newRow, newObj, Array.append_empty]
          simp only [V.conc, Option.map_some, r6]
          rfl
      · simp at h
    · simp at h
  · simp at h

theorem makeSlice_sound (hR : Rel fr g vs Hs w) (hA : At fr E.n g.φ st vs Hs a) {t : TypeId} {l c : Operand} {r : A} {st1 : St}
    (h : makeSliceA E t l c st = some (r, st1)) : OpOk E fr [] a w r st1 (Go.Instr.makeSlice t (a.eval l) (a.eval c)) := by
  unfold makeSliceA at h
  split at h
  · rename_i e x y hd hl hc
    split at h
    · rename_i u hT
      split at h
      · rename_i hcond
        obtain ⟨c1, c2, c3, c4, c5, c6, c7⟩ := hcond
        simp only [Option.some.injEq, Prod.mk.injEq] at h
        obtain ⟨rfl, rfl⟩ := h
        subst c2
        rw [hA.ev_eq] at hl hc
        obtain ⟨i, hi, hsz, hby, _⟩ := (hE e u hT).info
        obtain ⟨z, hz, hzr⟩ := zero_run hE hT w
        obtain ⟨z1, z2, z3⟩ := zero_cells (g := g) hE hz c7
        have hzl : (lift u.zero).cells.length = u.size := by rw [← c6, ← z2, List.length_map]
        have hR0 : Rel fr g (List.replicate x.toNat (lift u.zero) ++ vs) Hs w := by
          refine hR.weaken ?_ ?_ ?_
          · intro v hv
            rcases List.mem_append.1 hv with hv | hv
            · rw [(List.mem_replicate.1 hv).2]; exact hz.mem _ _
            · exact hR.mem v hv
          · intro v hv
            rcases List.mem_append.1 hv with hv | hv
            · rw [(List.mem_replicate.1 hv).2]; exact hz.low _
            · exact hR.low v hv
          · intro b
            have : flL (List.replicate x.toNat (lift u.zero)) = [] := by
              rw [flL_flatMap, List.flatMap_eq_nil_iff]; intro v hv; rw [(List.mem_replicate.1 hv).2]; exact hz.fl
            rw [flL_append, this, List.nil_append]; exact Nat.le_refl _
        have hU0 : Uni u.size (List.replicate x.toNat (lift u.zero)) = true := by simp [Uni, hzl]
        obtain ⟨F, hF⟩ := hR0.newSlice (own := some 0) (es := u.size) (cap := x.toNat) (rest := #[]) (ty := e) hU0 c5 (ones_of_solid hE (by
          intro x hx; rw [(List.mem_replicate.1 hx).2]; exact z3)) (by simp) (by simp) ⟨Nat.zero_le _, fun hx => by
            have := congrArg List.length hx; simpa using this⟩
        refine ⟨⟨g.φ, F⟩, _, vs, Hs, _, hF, hA, by simp [V.er, erL_map, lift_er], ?_⟩
        rw [hA.conc_eq, hA.conc_eq, er_int hl, er_int hc]
        simp only [V.conc, Go.Instr.makeSlice]
        rw [run_bind (run_underlying (und_sl hE hd) w)]
        simp only []
        rw [run_bind (show (asInt (.int .i64 x)).run E.P w = .ok x w from rfl), run_bind (show (asInt (.int .i64 x)).run E.P w = .ok x w from rfl)]
        rw [run_bind (show (typeInfo e).run E.P w = .ok i w by simp [typeInfo, program, hi, Sem.run, Bind.bind, Sem.bind, Pure.pure])]
        have hwr : IntKind.i64.wrap x = x := wrap_i64 (by omega) (by omega)
        simp only [hwr, hby]
        have hbx : (u.bytes : Int) * x ≤ 140737488355328 := by rw [Int.mul_comm]; exact c3
        have hcondF : ¬ ((decide (x < 0) || decide ((u.bytes : Int) * x > 2 ^ 48)) || decide (x < 0) || decide (x > x)) = true := by
          simp; omega
        rw [if_neg hcondF]
        rw [run_bind (show (askRoom (x.toNat * u.bytes)).run E.P w = .ok () w by
          unfold askRoom roomBytes
          split <;> rfl)]
        rw [run_bind (run_sizeOf hE hT w)]
        have hz0 : x.toNat * u.size = 0 → (Array.range (x.toNat * u.size)).map (fun i => (#[] : Array Value)[i % (#[] : Array Value).size]!) = ((flat (List.replicate x.toNat (lift u.zero))).map (V.conc g.φ)).toArray := fun h0 => by
          have hl0 : x.toNat = 0 := (Nat.mul_eq_zero.1 h0).resolve_right (by omega)
          rw [hl0]; simp [flat]
        have hz1 : (Array.range (x.toNat * u.size)).map (fun i => z.cells[i % z.cells.size]!) = ((flat (List.replicate x.toNat (lift u.zero))).map (V.conc g.φ)).toArray := by
          rw [z1]
          have : ((lift u.zero).cells.map (V.conc g.φ)).toArray.size = u.size := by simp [hzl]
          rw [this, zeros_eq _ _ _ _ hzl c5]
        by_cases h0 : x.toNat * u.size = 0
        · rw [if_pos h0, run_bind (pure_run _ _), hz0 h0]
          simp only [newRow, newObj, Array.append_empty, Option.map_some, List.length_replicate]
          rfl
        · rw [if_neg h0, run_bind hzr, run_bind (pure_run _ _), hz1]
          simp only [newRow, newObj, Array.append_empty, Option.map_some, List.length_replicate]
          rfl
      · simp at h
    · simp at h
  · simp at h
where wrap_i64 {n : Int} (h0 : 0 ≤ n) (h1 : n < 9223372036854775808) : IntKind.i64.wrap n = n := by
        simp [IntKind.wrap, IntKind.signed, IntKind.bits]; omega
end
end Go.Ab
end
