/- Abstract values and rules for them, proved sound over the model. -/
import Derived.Test.YtbdhocfaebchfaaOpLAbOp1
set_option linter.all false
set_option linter.unusedSimpArgs false
set_option linter.unusedVariables false
set_option linter.unnecessarySimpa false
section
/- Loads. -/
namespace Go.Ab
open V
variable [Glob]
set_option linter.unusedSimpArgs false
set_option linter.unusedVariables false
set_option linter.unusedSectionVars false

theorem range_split {α : Type} (cs : List α) (o n : Nat) (h : o + n ≤ cs.length) : cs = cs.take o ++ ((cs.drop o).take n ++ cs.drop (o + n)) := by
  have h1 : (cs.drop o).drop n = cs.drop (o + n) := by rw [List.drop_drop]
  rw [← h1, List.take_append_drop, List.take_append_drop]
theorem mapRange_map {α β : Type} (f : α → α) (g : α → β) (f' : β → β) (h : ∀ x, g (f x) = f' (g x)) (cs : List α) (o n : Nat) :
    (mapRange f cs o n).map g = mapRange f' (cs.map g) o n := by
  simp only [mapRange, List.map_append, List.map_map, List.map_take, List.map_drop]
  congr 2
  simp only [← List.map_drop, ← List.map_take, List.map_map]
  congr 1
  funext x; simp [h]
theorem mem_mapRange {α : Type} {f : α → α} {cs : List α} {o n : Nat} {x : α} (h : x ∈ mapRange f cs o n) : x ∈ cs ∨ ∃ y ∈ (cs.drop o).take n, x = f y := by
  simp only [mapRange, List.mem_append, List.mem_map] at h
  rcases h with (h | ⟨y, hy, rfl⟩) | h
  · exact .inl (List.mem_of_mem_take h)
  · exact .inr ⟨y, hy, rfl⟩
  · exact .inl (List.mem_of_mem_drop h)
theorem mapRange_id {α : Type} (f : α → α) (cs : List α) (o n : Nat) (h : o + n ≤ cs.length) (hf : ∀ x ∈ (cs.drop o).take n, f x = x) : mapRange f cs o n = cs := by
  unfold mapRange
  rw [List.map_congr_left hf, List.map_id', List.append_assoc, ← range_split cs o n h]

section
variable {E : Env} {g : Ghost} {w : World} {fr : Fr} {vs pre : List (V D)} {Hs : List (Ob D)} {st : St} {a : Act} (hE : E.Ok)

theorem heap_cells {b : Nat} {c : Array Value} {ty : TypeId} {z : Nat × Nat} (h : w.heap[b]? = some (.cells c ty z)) (i : Nat) : w.cell? ⟨b, i, none⟩ = c[i]? := by
  simp [World.cell?, h]

include hE

omit hE in
theorem vals_cells {δ : Type} (cs : List (V δ)) : (Ob.cells cs).vals = cs := rfl

/-- A load of cells that lie in a row. -/
theorem loadVar_run {t : TypeId} {u : Ty} (hT : E.T t = some u) {f : Nat → Nat} {b o : Nat} {cs : List (V D)} {r : V D}
    (hc : CellsW f w b o cs) (h : (u.d.agg = true ∧ r = .agg (cs.take u.size) ∧ u.size ≤ cs.length) ∨ (u.d.agg = false ∧ cs[0]? = some r)) :
    (loadVar t ⟨b, o, none⟩).run E.P w = .ok (V.conc f r) w := by
  unfold loadVar
  rw [run_bind (isAgg_run hE hT w)]
  rcases h with ⟨ha, rfl, hl⟩ | ⟨ha, h0⟩
  · rw [ha]
    simp only [if_true]
    rw [run_bind (run_sizeOf hE hT w)]
    have hlen : (cs.take u.size).length = u.size := by simp [Nat.min_eq_left hl]
    have := loadCells_run (P := E.P) (w := w) (f := f) (b := b) (o := o) (cs := cs.take u.size) (fun j c hj => hc j c (by
      rw [List.getElem?_take] at hj; split at hj <;> simp_all))
    rw [hlen] at this
    rw [run_bind this]
    simp only [pure_run, V.conc, concL_map]
  · rw [ha]
    simp only [Bool.false_eq_true, if_false]
    have := hc 0 r h0
    simp only [Nat.add_zero] at this
    simp [load, Sem.run, this]

/-- What a part of cells is. -/
theorem partA_er {u : Ty} {cs : List (V D)} {o : Nat} {r : A} (h : partA u (cs.map V.er) o = some r) :
    ∃ sr, sr.er = r ∧ ((u.d.agg = true ∧ sr = .agg ((cs.drop o).take u.size) ∧ o + u.size ≤ cs.length) ∨ (u.d.agg = false ∧ cs[o]? = some sr)) := by
  unfold partA at h
  cases ha : u.d.agg with
  | true =>
    simp only [ha, if_true, List.length_map] at h
    split at h
    · rename_i hle
      simp only [Option.some.injEq] at h; subst h
      exact ⟨.agg ((cs.drop o).take u.size), by simp [V.er, erL_map, List.map_drop, List.map_take], .inl ⟨rfl, rfl, hle⟩⟩
    · simp at h
  | false =>
    simp only [ha, Bool.false_eq_true, if_false, List.getElem?_map] at h
    obtain ⟨c, hc, rfl⟩ := Option.map_eq_some_iff.1 h
    exact ⟨c, rfl, .inr ⟨rfl, hc⟩⟩

theorem part_agree {u : Ty} {cs : List (V D)} {o : Nat} {sr : V D} (hu : u.d.agg = false → u.size = 1)
    (h : (u.d.agg = true ∧ sr = .agg ((cs.drop o).take u.size) ∧ o + u.size ≤ cs.length) ∨ (u.d.agg = false ∧ cs[o]? = some sr)) (h1 : ∀ c ∈ cs, c.one = true) :
    sr.cells = (cs.drop o).take u.size ∧ o + u.size ≤ cs.length := by
  rcases h with ⟨_, rfl, hl⟩ | ⟨ha, h⟩
  · exact ⟨rfl, hl⟩
  · rw [hu ha]
    have hlt := (List.getElem?_eq_some_iff.1 h).1
    refine ⟨?_, by omega⟩
    rw [cells_ne (h1 sr (List.mem_of_getElem? h))]
    have : cs.drop o = sr :: cs.drop (o + 1) := by
      rw [List.drop_eq_getElem_cons hlt]; rw [(List.getElem?_eq_some_iff.1 h).2]
    rw [this]; simp

/-- What an operation leaves: a value ahead of the slots. -/
def OpOk (E : Env) (fr : Fr) (pre : List (V D)) (a : Act) (w : World) (r : A) (st1 : St) (e : Sem Value) : Prop :=
  ∃ g sr vs Hs w', Rel fr g (sr :: (pre ++ vs)) Hs w' ∧ At fr E.n g.φ st1 vs Hs a ∧ sr.er = r ∧ e.run E.P w = .ok (V.conc g.φ sr) w'

/-- The same, of an operation that leaves the world as it is. -/
def LoadOk (E : Env) (fr : Fr) (g : Ghost) (pre : List (V D)) (a : Act) (w : World) (r : A) (st1 : St) (e : Sem Value) : Prop :=
  ∃ F sr vs Hs, Rel fr ⟨g.φ, F⟩ (sr :: (pre ++ vs)) Hs w ∧ At fr E.n g.φ st1 vs Hs a ∧ sr.er = r ∧ e.run E.P w = .ok (V.conc g.φ sr) w

omit hE in
theorem LoadOk.op {r : A} {st1 : St} {e : Sem Value} (h : LoadOk E fr g pre a w r st1 e) : OpOk E fr pre a w r st1 e := by
  obtain ⟨F, sr, vs, Hs, h1, h2, h3, h4⟩ := h
  exact ⟨⟨g.φ, F⟩, sr, vs, Hs, w, h1, h2, h3, h4⟩

theorem getH (hA : At fr E.n g.φ st vs Hs a) {i : Nat} {cs : List A} (h : st.H[i]? = some (.cells cs)) : ∃ ds, Hs[i]? = some (.cells ds) ∧ cs = ds.map V.er := by
  rw [← hA.H, List.getElem?_map] at h
  obtain ⟨o, ho, he⟩ := Option.map_eq_some_iff.1 h
  cases o with
  | cells ds => simp only [Ob.er, Ob.cells.injEq] at he; exact ⟨ds, ho, he.symm⟩
  | map es => simp [Ob.er] at he
  | loop l r cs => simp [Ob.er] at he

theorem load_sound (hR : Rel fr g (pre ++ vs) Hs w) (hA : At fr E.n g.φ st vs Hs a) {m : Mode} {t : TypeId} {x : Operand} {r : A} {st1 : St}
    (h : loadA E m t x st = some (r, st1)) : LoadOk E fr g pre a w r st1 (Go.Instr.loadAt t (a.eval x)) := by
  have hRv : Rel fr g vs Hs w := hR.sub (fun v hv => by simp [hv]) (fun b => by simp only [flL_append, List.count_append]; omega)
  unfold loadA at h
  split at h
  · simp at h
  · rename_i u hT
    split at h
    · -- read-only
      rename_i cs hx
      obtain ⟨v, hv, he⟩ := Option.map_eq_some_iff.1 h
      simp only [Prod.mk.injEq] at he
      obtain ⟨rfl, rfl⟩ := he
      rw [hA.ev_eq] at hx
      obtain ⟨ys, d, hy, rfl⟩ := er_rd hx
      obtain ⟨hm, hlow⟩ := hA.mem_sev hRv x
      rw [hy] at hm hlow
      simp only [Mem, MemL_all, V.low, lowL_all, List.all_eq_true] at hm hlow
      obtain ⟨hm1, hfl, b, o, hd, hc, hle⟩ := hm
      obtain ⟨sr, hsr, hp⟩ := partA_er hE hv
      have hg := part_good hm1 hlow hp
      have hsf : sr.flagless = true := by
        rw [flaglessL_all, List.all_eq_true] at hfl
        rcases hp with ⟨_, rfl, _⟩ | ⟨_, hp⟩
        · simp only [flagless, flaglessL_all, List.all_eq_true]; exact fun c hc => hfl c (List.mem_of_mem_drop (List.mem_of_mem_take hc))
        · exact hfl _ (List.mem_of_getElem? hp)
      refine ⟨g.F, sr, vs, Hs, hR.cons hg.1 hg.2 (fl_nil hsf), hA, hsr, ?_⟩
      rw [hA.conc_eq, hy]
      simp only [V.conc, hd, Option.map_some, Go.Instr.loadAt]
      rw [run_bind (show (Go.Instr.sureAddr (.pointer (some ⟨b, o, none⟩))).run E.P w = .ok ⟨b, o, none⟩ w from rfl)]
      exact loadVar_run hE hT hc.w (by simpa using hp)
    · rename_i p hx
      rw [hA.ev_eq] at hx
      have hcx : a.eval x = .pointer (some ⟨g.φ p.1, p.2, none⟩) := by rw [hA.conc_eq, er_ptr hx]; rfl
      split at h
      · rename_i cs hH
        obtain ⟨ds, hHs, rfl⟩ := getH hE hA hH
        obtain ⟨hm, ⟨hone, ty, rest, fz, hheap, hfz⟩, hF0, hX⟩ := hR.hmem _ _ hHs
        simp only [Ob.vals] at hm
        have hilt := (List.getElem?_eq_some_iff.1 hHs).1
        split at h
        · rename_i v hv
          obtain ⟨sr, hsr, hp⟩ := partA_er hE hv
          obtain ⟨hcells, hle⟩ := part_agree hE (hE t u hT).leaf hp hone
          have hrun : (Go.Instr.loadAt t (a.eval x)).run E.P w = .ok (V.conc g.φ sr) w := by
            rw [hcx]
            simp only [Go.Instr.loadAt]
            rw [run_bind (show (Go.Instr.sureAddr (.pointer (some ⟨g.φ p.1, p.2, none⟩))).run E.P w = .ok ⟨g.φ p.1, p.2, none⟩ w from rfl)]
            refine loadVar_run hE hT (cs := ds.drop p.2) ?_ (hp.imp (fun h => ⟨h.1, h.2.1, by simp; omega⟩) (fun h => ⟨h.1, by simpa using h.2⟩))
            intro j c hj
            rw [List.getElem?_drop] at hj
            rw [heap_cells hheap, Array.getElem?_append_left (by simpa using (List.getElem?_eq_some_iff.1 hj).1)]
            simp [hj]
          have hlowH : ∀ c ∈ ds, c.low Hs.length = true := fun c hc => low_mono (hm c hc).2 (by omega)
          have hg := part_good (fun c hc => (hm c hc).1) hlowH hp
          split at h
          · rename_i hf
            simp only [Option.some.injEq, Prod.mk.injEq] at h
            obtain ⟨rfl, rfl⟩ := h
            exact ⟨g.F, sr, vs, Hs, hR.cons hg.1 hg.2 (fl_nil (by rw [← er_flagless, hsr]; exact hf)), hA, hsr, hrun⟩
          · -- with a right
            have hnd : ∀ b, (flH Hs).count b ≤ 1 := fun b => by have := hR.uniq b; omega
            have hsub : ∀ b, sr.fl.count b ≤ (flL ds).count b := by
              intro b
              rcases hp with ⟨_, rfl, hl⟩ | ⟨_, hp⟩
              · conv => rhs; rw [range_split ds p.2 u.size hl]
                simp only [fl, flL_append, List.count_append]; omega
              · have := count_set b (.nilFn) sr ds p.2 hp
                simp only [fl, List.count_nil] at this; omega
            have hdsH : ∀ b, (flL ds).count b ≤ (flH Hs).count b := fun b => by
              have := count_setH b (.cells ds) (.cells []) Hs p.1 hHs
              simp only [Ob.vals, flL, List.count_nil] at this; omega
            have hsrnd : sr.fl.Nodup := List.nodup_iff_count.2 fun b => Nat.le_trans (hsub b) (Nat.le_trans (hdsH b) (hnd b))
            have hsrmem : ∀ b ∈ sr.fl, b ∈ flH Hs := fun b hb => List.count_pos_iff.1 (Nat.lt_of_lt_of_le (List.count_pos_iff.2 hb) (Nat.le_trans (hsub b) (hdsH b)))
            have hrange : ∀ c ∈ (ds.drop p.2).take u.size, c ∈ sr.cells := fun c hc => by rw [hcells]; exact hc
            have hother : ∀ (F : Nat → Nat), (∀ b, g.F b ≤ F b) → (∀ b, b ∉ sr.fl → F b = g.F b) → (∀ v ∈ pre ++ vs, Mem ⟨g.φ, F⟩ w v) ∧
                (∀ (i : Nat) o, i ≠ p.1 → Hs[i]? = some o → ∀ c ∈ o.vals, Mem ⟨g.φ, F⟩ w c) ∧ (∀ c ∈ ds.take p.2 ++ ds.drop (p.2 + u.size), Mem ⟨g.φ, F⟩ w c) := by
              intro F h1 h2
              refine ⟨fun v hv => Mem_F h1 v (fun b hb => h2 b fun hbs => ?_) (hR.mem v hv), fun i o hi ho c hc => Mem_F h1 c (fun b hb => h2 b fun hbs => ?_) ((hR.hmem i o ho).1 c hc).1,
                fun c hc => Mem_F h1 c (fun b hb => h2 b fun hbs => ?_) (hm c (by simp only [List.mem_append] at hc; exact hc.elim List.mem_of_mem_take List.mem_of_mem_drop)).1⟩
              · have e1 := List.count_pos_iff.2 (flL_mem.2 ⟨v, hv, hb⟩)
                have e2 := List.count_pos_iff.2 (hsrmem b hbs)
                have := hR.uniq b; omega
              · have e1 := List.count_pos_iff.2 hbs
                have e2 := count_setH b (.cells ds) (.cells []) Hs p.1 hHs
                have e3 := count_setH b o (.cells []) (Hs.set p.1 (.cells [])) i (by rw [List.getElem?_set, if_neg (fun h => hi h.symm)]; exact ho)
                have e4 : 0 < (flL o.vals).count b := List.count_pos_iff.2 (flL_mem.2 ⟨c, hc, hb⟩)
                have e5 := hsub b
                have e6 := hnd b
                simp only [vals_cells, flL, List.count_nil] at e2 e3; omega
              · have e1 := List.count_pos_iff.2 hbs
                have e2 := List.count_pos_iff.2 (flL_mem.2 ⟨c, hc, hb⟩)
                have e3 := hdsH b
                have e6 := hnd b
                have e7 : (flL ds).count b = (flL (ds.take p.2)).count b + ((flL ((ds.drop p.2).take u.size)).count b + (flL (ds.drop (p.2 + u.size))).count b) := by
                  conv => lhs; rw [range_split ds p.2 u.size hle]
                  simp only [flL_append, List.count_append]
                have e8 : sr.fl.count b = (flL ((ds.drop p.2).take u.size)).count b := by
                  rw [← hcells]
                  rcases hp with ⟨_, rfl, _⟩ | ⟨_, hp⟩
                  · rfl
                  · rw [cells_ne (hone sr (List.mem_of_getElem? hp))]; simp [flL]
                simp only [flL_append, List.count_append] at e2; omega
            have hatH : ∀ (f : V D → V D) (f' : A → A), (∀ v, (f v).er = f' v.er) → (∀ v, V.conc g.φ (f v) = V.conc g.φ v) →
                At fr E.n g.φ { st with H := st.H.set p.1 (.cells (mapRange f' (ds.map V.er) p.2 u.size)) } vs (Hs.set p.1 (.cells (mapRange f ds p.2 u.size))) a := by
              intro f f' h1 h2
              refine ⟨hA.len, hA.tm, hA.σ, ?_, hA.df⟩
              rw [List.map_set, hA.H]
              simp only [Ob.er, mapRange_map f V.er f' h1]
            have hobk : ∀ (f : V D → V D), (∀ v, V.conc g.φ (f v) = V.conc g.φ v) → (∀ v, v.one = true → (f v).one = true) → ObOk g.φ w (g.φ p.1) (.cells (mapRange f ds p.2 u.size)) := by
              intro f h1 h2
              have e : (mapRange f ds p.2 u.size).map (V.conc g.φ) = ds.map (V.conc g.φ) := by
                rw [mapRange_map f (V.conc g.φ) id (by simpa using h1), mapRange_id _ _ _ _ (by simpa using hle) (by simp)]
              refine ⟨fun c hc => ?_, ty, rest, fz, ?_, ?_⟩
              · rcases mem_mapRange hc with hc | ⟨y, hy, rfl⟩
                · exact hone c hc
                · exact h2 y (hone y (List.mem_of_mem_drop (List.mem_of_mem_take hy)))
              · rw [e]; exact hheap
              · rw [e]; exact hfz
            cases m with
            | copy =>
              simp only [Option.some.injEq, Prod.mk.injEq] at h
              obtain ⟨rfl, rfl⟩ := h
              obtain ⟨F, h1, h2, h3, h4⟩ := borrow w sr g hg.1 hsrnd
              obtain ⟨o1, o2, o3⟩ := hother F h1 h2
              have h3' : ∀ c ∈ (ds.drop p.2).take u.size, Mem ⟨g.φ, F⟩ w c.share := by
                intro c hc
                have hcs := hrange c hc
                rcases hp with ⟨_, rfl, _⟩ | ⟨_, hp⟩
                · simp only [share, shareL_map, Mem, MemL_all, List.mem_map] at h3
                  exact h3 _ ⟨c, hc, rfl⟩
                · rw [cells_ne (hone sr (List.mem_of_getElem? hp))] at hcs
                  simp only [List.mem_singleton] at hcs; rw [hcs]; exact h3
              have hcnt : ∀ b, (flL (mapRange share ds p.2 u.size)).count b = (flL ds).count b := by
                intro b
                conv => rhs; rw [range_split ds p.2 u.size hle]
                simp only [mapRange, flL_append, List.count_append]
                have : flL (List.map share (List.take u.size (List.drop p.2 ds))) = flL (List.take u.size (List.drop p.2 ds)) := by
                  simp only [flL_flatMap, List.flatMap_map]; exact flatMap_congr_mem fun x _ => share_fl x
                rw [this]; omega
              refine ⟨F, sr.strip, vs, Hs.set p.1 (.cells (mapRange share ds p.2 u.size)),
                hR.reghost h1 (fun b _ hb => h2 b fun hbs => hb (hsrmem b hbs)) ?_ ?_ (by simp) ?_ ?_, hatH share share er_share (conc_share _), ?_, ?_⟩
              · intro v hv
                rcases List.mem_cons.1 hv with rfl | hv
                · exact h4
                · exact o1 v hv
              · intro v hv
                rcases List.mem_cons.1 hv with rfl | hv
                · rw [strip_low]; exact hg.2
                · exact hR.low v hv
              · intro i o ho
                by_cases hi : i = p.1
                · subst hi
                  rw [List.getElem?_set, if_pos rfl, if_pos hilt] at ho
                  simp only [Option.some.injEq] at ho; subst ho
                  refine ⟨fun c hc => ?_, hobk share (conc_share _) (fun v hv => by rw [share_one]; exact hv)⟩
                  simp only [Ob.vals, mapRange, List.mem_append, List.mem_map] at hc
                  rcases hc with (hc | ⟨y, hy, rfl⟩) | hc
                  · exact ⟨o3 c (by simp [hc]), (hm c (List.mem_of_mem_take hc)).2⟩
                  · exact ⟨h3' y hy, by rw [share_low]; exact (hm y (List.mem_of_mem_drop (List.mem_of_mem_take hy))).2⟩
                  · exact ⟨o3 c (by simp [hc]), (hm c (List.mem_of_mem_drop hc)).2⟩
                · rw [List.getElem?_set, if_neg (fun h => hi h.symm)] at ho
                  exact ⟨fun c hc => ⟨o2 i o hi ho c hc, ((hR.hmem i o ho).1 c hc).2⟩, (hR.hmem i o ho).2.1⟩
              · intro b
                have := count_setH b (.cells ds) (.cells (mapRange share ds p.2 u.size)) Hs p.1 hHs
                simp only [Ob.vals, hcnt b] at this
                simp only [List.nil_append, flL, strip_fl]; omega
              · rw [er_strip, hsr]
              · rw [conc_strip]; exact hrun
            | take =>
              simp only [Option.some.injEq, Prod.mk.injEq] at h
              obtain ⟨rfl, rfl⟩ := h
              obtain ⟨o1, o2, o3⟩ := hother g.F (fun _ => Nat.le_refl _) (fun _ _ => rfl)
              have hcnt : ∀ b, (flL (mapRange (leave1 (raw g.φ)) ds p.2 u.size)).count b + sr.fl.count b = (flL ds).count b := by
                intro b
                conv => rhs; rw [range_split ds p.2 u.size hle]
                simp only [mapRange, flL_append, List.count_append]
                have e1 : flL (List.map (leave1 (raw g.φ)) (List.take u.size (List.drop p.2 ds))) = [] := by
                  simp only [flL_flatMap, List.flatMap_eq_nil_iff, List.mem_map]; rintro _ ⟨x, _, rfl⟩; exact fl_nil (leave1_flagless _ _)
                have e8 : sr.fl.count b = (flL ((ds.drop p.2).take u.size)).count b := by
                  rw [← hcells]
                  rcases hp with ⟨_, rfl, _⟩ | ⟨_, hp⟩
                  · rfl
                  · rw [cells_ne (hone sr (List.mem_of_getElem? hp))]; simp [flL]
                rw [e1, e8]; simp only [List.count_nil]; omega
              refine ⟨g.F, sr, vs, Hs.set p.1 (.cells (mapRange (leave1 (raw g.φ)) ds p.2 u.size)),
                hR.reghost (F := g.F) (fun _ => Nat.le_refl _) (fun _ _ _ => rfl) ?_ ?_ (by simp) ?_ ?_, hatH _ lv1 (er_leave1 _) (conc_leave1 _), hsr, hrun⟩
              · intro v hv
                rcases List.mem_cons.1 hv with rfl | hv
                · exact hg.1
                · exact hR.mem v hv
              · intro v hv
                rcases List.mem_cons.1 hv with rfl | hv
                · exact hg.2
                · exact hR.low v hv
              · intro i o ho
                by_cases hi : i = p.1
                · subst hi
                  rw [List.getElem?_set, if_pos rfl, if_pos hilt] at ho
                  simp only [Option.some.injEq] at ho; subst ho
                  refine ⟨fun c hc => ?_, hobk _ (conc_leave1 _) (fun v hv => one_leave1 _ hv)⟩
                  simp only [Ob.vals, mapRange, List.mem_append, List.mem_map] at hc
                  rcases hc with (hc | ⟨y, hy, rfl⟩) | hc
                  · exact hm c (List.mem_of_mem_take hc)
                  · have := hm y (List.mem_of_mem_drop (List.mem_of_mem_take hy))
                    exact ⟨Mem_leave1 _ this.1, low_leave1 _ this.2⟩
                  · exact hm c (List.mem_of_mem_drop hc)
                · rw [List.getElem?_set, if_neg (fun h => hi h.symm)] at ho
                  exact ⟨(hR.hmem i o ho).1, (hR.hmem i o ho).2.1⟩
              · intro b
                have := count_setH b (.cells ds) (.cells (mapRange (leave1 (raw g.φ)) ds p.2 u.size)) Hs p.1 hHs
                have h3 := hcnt b
                simp only [Ob.vals] at this
                simp only [List.nil_append, flL, List.count_append]; omega
        · simp at h
      · simp at h
    · simp at h
end
end Go.Ab
end
