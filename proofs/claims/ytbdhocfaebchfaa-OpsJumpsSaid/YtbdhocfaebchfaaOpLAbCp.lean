/- Abstract values and rules for them, proved sound over the model. -/
import Derived.Test.YtbdhocfaebchfaaOpLAbBy
set_option linter.all false
set_option linter.unusedSimpArgs false
set_option linter.unusedVariables false
set_option linter.unnecessarySimpa false
section
/- Windows: read as a text, and copied into: proved sound. -/
namespace Go.Ab
open V
variable [Glob]
set_option linter.unusedSimpArgs false
set_option linter.unusedVariables false
set_option linter.unusedSectionVars false

theorem cellsW_take {f : Nat → Nat} {w : World} {b o n : Nat} {cs : List (V D)} (h : CellsW f w b o cs) : CellsW f w b o (cs.take n) := by
  intro j c hj
  rw [List.getElem?_take] at hj
  split at hj
  · exact h j c hj
  · cases hj

section
variable {E : Env} {g : Ghost} {w : World} {fr : Fr} {vs pre : List (V D)} {Hs : List (Ob D)} {st : St} {a : Act} (hE : E.Ok)
include hE

omit hE in
theorem cellsW_ob {b o n : Nat} {ds : List (V D)} {f : Nat → Nat} {rest : Array Value} {ty : TypeId} {fz : Nat × Nat} (h : w.heap[b]? = some (.cells ((ds.map (V.conc f)).toArray ++ rest) ty fz)) : CellsW f w b o ((ds.drop o).take n) := by
  refine cellsW_take ?_
  intro j c hj
  rw [List.getElem?_drop] at hj
  rw [heap_cells h, Array.getElem?_append_left (by simpa using (List.getElem?_eq_some_iff.1 hj).1)]
  simp [hj]

theorem winStr_sound (hR : Rel fr g vs Hs w) (hA : At fr E.n g.φ st vs Hs a) {s d : TypeId} {x : Operand} {r : A}
    (h : winStrA E.T s d (ev st x) st.H = some r) : OpOk E fr [] a w r st (convert s d (a.eval x)) := by
  unfold winStrA at h
  split at h
  · rename_i p n hd hx
    split at h
    · rename_i e cs hs hH
      split at h
      · rename_i he
        split at h
        · rename_i hle
          obtain ⟨l, hl, rfl⟩ := Option.map_eq_some_iff.1 h
          rw [hA.ev_eq] at hx
          obtain ⟨dd, hy⟩ := er_win hx
          obtain ⟨ds, hHs, rfl⟩ := getH hE hA hH
          obtain ⟨hm, ⟨hone, ty, rest, fz, hheap, hfz⟩, hF0, hX⟩ := hR.hmem _ _ hHs
          rw [← List.map_drop, ← List.map_take] at hl
          obtain ⟨h1, rfl⟩ := bytes_mapM hl
          have hc : CellsW g.φ w (g.φ p.1) p.2 ((ds.drop p.2).take n) := cellsW_ob hheap
          have hlen : ((ds.drop p.2).take n).length = n := by simp only [List.length_map] at hle; simp; omega
          generalize (ds.drop p.2).take n = ys at *
          obtain ⟨ns, hns⟩ : ∃ ns : List Int, ys = ns.map fun n => .int .u8 n := by
            clear hl hc hlen h
            induction ys with
            | nil => exact ⟨[], rfl⟩
            | cons y ys ih =>
              obtain ⟨n, hn⟩ := h1 y (by simp)
              obtain ⟨ns, hns⟩ := ih (fun z hz => h1 z (by simp [hz]))
              exact ⟨n :: ns, by rw [hn, hns]; rfl⟩
          subst hns
          refine ⟨g, _, vs, Hs, w, hR.cons (v := .str _) (by simp [Mem]) rfl rfl, hA, rfl, ?_⟩
          rw [hA.conc_eq, hy]
          simp only [V.conc, Go.convert]
          rw [run_bind (run_underlying (und_sl hE hs) w), run_bind (run_underlying (und_str hE hd) w)]
          simp only []
          rw [run_bind (run_underlying (und_int hE he) w)]
          simp only [Go.Conv.bytesToString]
          have hlc := loadCells_run (P := E.P) hc
          rw [hlen] at hlc
          rw [run_bind hlc]
          have hl2 : ((ns.map fun n => (V.int .u8 n : V D)).map (V.conc g.φ)).toArray = (ns.map fun n => Value.int .u8 n).toArray := by
            simp [V.conc, Function.comp_def]
          rw [hl2]
          rw [List.forIn_toArray]
          rw [run_bind (bytesToString_loop (fun n s => rfl) ns ByteArray.empty)]
          simp only [pure_run, push_all]
          simp [Function.comp_def]
        · cases h
      · cases h
    · cases h
  · cases h

theorem src_run (hR : Rel fr g vs Hs w) (hA : At fr E.n g.φ st vs Hs a) {y : Operand} {size m : Nat} {ds' : List A} (h : srcA st.H size (ev st y) = some (m, ds')) :
    ∃ ds : List (V D), ds.map V.er = ds' ∧ ds.length = m * size ∧ (Go.Builtin.lenOf (a.eval y)).run E.P w = .ok m w ∧ (∀ c ∈ ds, Mem g w c ∧ c.low Hs.length = true) ∧
      ∀ k, k ≤ m → (Go.Builtin.firstCells size k (a.eval y)).run E.P w = .ok ((ds.take (k * size)).map (V.conc g.φ)).toArray w := by
  have hsy := hA.mem_sev hR y
  unfold srcA at h
  rw [hA.ev_eq] at h
  rw [hA.conc_eq]
  generalize sev vs a y = sy at h hsy
  have tk : ∀ {b o k : Nat} {cs : List (V D)}, k ≤ cs.length → CellsW g.φ w b o cs → (loadCells ⟨b, o, none⟩ k).run E.P w = .ok ((cs.take k).map (V.conc g.φ)).toArray w := by
    intro b o k cs hk hc
    have := loadCells_run (P := E.P) (cellsW_take (n := k) hc)
    rw [List.length_take, Nat.min_eq_left hk] at this
    exact this
  split at h
  · rename_i ys own hy
    split at h
    · rename_i hU
      simp only [Option.some.injEq, Prod.mk.injEq] at h
      obtain ⟨rfl, rfl⟩ := h
      obtain ⟨xs, d, rfl, rfl⟩ := er_sl hy
      rw [er_Uni] at hU
      have hm := hsy.1
      simp only [Mem, MemL_all] at hm
      obtain ⟨hm1, hU', hes, hcap, hs⟩ := hm
      have hl := hsy.2
      simp only [V.low, lowL_all, List.all_eq_true] at hl
      have hfl := flat_length hU
      refine ⟨flat xs, (er_flat xs).symm, by rw [hfl, List.length_map], by rw [List.length_map]; rfl, ?_, ?_⟩
      · intro c hc
        simp only [flat, List.mem_flatMap] at hc
        obtain ⟨x, hx, hcx⟩ := hc
        refine ⟨?_, low_cells (hl x hx) hcx⟩
        have := hm1 x hx
        cases x <;> simp_all [V.cells, Mem, MemL_all]
      · intro k hk
        rw [List.length_map] at hk
        simp only [V.conc]
        cases hd : d.a with
        | none =>
          rw [hd] at hs; simp only at hs
          have hx := hs.1
          subst hx
          simp only [slA, hd, List.length_nil] at hk ⊢
          obtain rfl : k = 0 := by omega
          cases d.wa <;> simp only [Go.Builtin.firstCells, Nat.zero_mul] <;> rfl
        | some p =>
          obtain ⟨b, o⟩ := p
          rw [hd] at hs
          simp only at hs
          simp only [slA, hd, Go.Builtin.firstCells]
          exact tk (by rw [hfl]; exact Nat.mul_le_mul_right _ hk) hs.1.w
    · cases h
  · rename_i b hy
    split at h
    · rename_i h1
      subst h1
      simp only [Option.some.injEq, Prod.mk.injEq] at h
      obtain ⟨rfl, rfl⟩ := h
      have := er_str hy
      subst this
      obtain ⟨b1, b2, b3⟩ := byte_facts b
      refine ⟨b.data.toList.map fun x => (.int .u8 x.toNat : V D), by simp [V.er, byteA, Function.comp_def], by simp, rfl, fun c hc => ⟨(b1 c hc).2.2.1 _ _, (b1 c hc).2.2.2 _⟩, ?_⟩
      intro k hk
      simp only [V.conc, Go.Builtin.firstCells]
      show Result.ok _ _ = _
      congr 1
      apply Array.ext'
      simp [V.conc, Function.comp_def, List.map_take]
    · cases h
  · rename_i p n hy
    split at h
    · rename_i cs hH
      split at h
      · rename_i hle
        simp only [Option.some.injEq, Prod.mk.injEq] at h
        obtain ⟨rfl, rfl⟩ := h
        obtain ⟨d, rfl⟩ := er_win hy
        obtain ⟨ds, hHs, rfl⟩ := getH hE hA hH
        obtain ⟨hm, ⟨hone, ty, rest, fz, hheap, hfz⟩, hF0, hX⟩ := hR.hmem _ _ hHs
        have hi := (List.getElem?_eq_some_iff.1 hHs).1
        simp only [List.length_map] at hle
        simp only [Ob.vals] at hm
        refine ⟨(ds.drop p.2).take (n * size), by rw [List.map_take, List.map_drop], by simp; omega, rfl, ?_, ?_⟩
        · intro c hc
          have hcd := List.mem_of_mem_drop (List.mem_of_mem_take hc)
          exact ⟨(hm c hcd).1, low_mono (hm c hcd).2 (by omega)⟩
        · intro k hk
          simp only [V.conc, Go.Builtin.firstCells]
          refine tk ?_ (cellsW_ob hheap)
          have := Nat.mul_le_mul_right size hk
          simp; omega
      · cases h
    · cases h
  · cases h

theorem copyOp_sound (hR : Rel fr g vs Hs w) (hA : At fr E.n g.φ st vs Hs a) {t ty' : TypeId} {x y : Operand} {r : A} {st1 : St} (ty : TypeId)
    (h : copyA E t x y st = some (r, st1)) : OpOk E fr [] a w r st1 (Go.Builtin.copy_ #[t, ty'] ty #[a.eval x, a.eval y]) := by
  unfold copyA at h
  split at h
  · rename_i e p n hd hx
    split at h
    · rename_i u hT
      split at h
      · rename_i m ds' cs hsrc hH
        split at h
        · rename_i hc
          obtain ⟨c1, c2, c3, c4⟩ := hc
          simp only [Option.some.injEq, Prod.mk.injEq] at h
          obtain ⟨rfl, rfl⟩ := h
          rw [hA.ev_eq] at hx
          obtain ⟨d, hy⟩ := er_win hx
          obtain ⟨ds, rfl, hdl, hlen, hdm, hfc⟩ := src_run hE hR hA hsrc
          obtain ⟨cs, hHs, rfl⟩ := getH hE hA hH
          have hilt := (List.getElem?_eq_some_iff.1 hHs).1
          simp only [List.length_map] at c4
          let part := ds.take (min m n * u.size)
          have hpl : part.length = min m n * u.size := by
            have : min m n * u.size ≤ m * u.size := Nat.mul_le_mul_right _ (Nat.min_le_left _ _)
            simp only [part, List.length_take]; omega
          rw [← List.map_take] at c1 c2 c3
          simp only [List.all_map, List.all_eq_true, Function.comp_def, er_flagless, er_low] at c1 c3
          have hsol : ∀ c ∈ part, solid c = true := by
            intro c hc
            have := List.all_eq_true.1 c2 _ (List.mem_map.2 ⟨c, hc, rfl⟩)
            cases c <;> simp_all [V.er, solid]
          have hks : Rel fr g (part ++ vs) Hs w := by
            refine hR.weaken ?_ ?_ ?_
            · intro v hv
              rcases List.mem_append.1 hv with hv | hv
              · exact (hdm v (List.mem_of_mem_take hv)).1
              · exact hR.mem v hv
            · intro v hv
              rcases List.mem_append.1 hv with hv | hv
              · exact (hdm v (List.mem_of_mem_take hv)).2
              · exact hR.low v hv
            · intro b
              have : flL part = [] := by rw [flL_flatMap, List.flatMap_eq_nil_iff]; exact fun v hv => fl_nil (c1 v hv)
              rw [flL_append, this, List.nil_append]; exact Nat.le_refl _
          obtain ⟨ty1, rest, fz, hheap, hfz, hw⟩ := writeObj hks hHs c3 hsol (by rw [hpl]; exact c4)
          refine ⟨g, .int .i64 (min m n : Nat), vs, _, _, hw.cons (by simp [Mem]) rfl rfl, ⟨hA.len, hA.tm, hA.σ, ?_, hA.df⟩, rfl, ?_⟩
          · rw [List.map_set, hA.H]
            simp only [Ob.er, putRange, part, List.map_append, List.map_take, List.map_drop, List.length_map, List.length_take]
          · simp only [Go.Builtin.copy_, List.getElem?_toArray, List.getElem?_cons_zero, List.getElem?_cons_succ]
            rw [run_bind (run_underlying (und_sl hE hd) w)]
            rw [hA.conc_eq x, hy]
            simp only [V.conc]
            rw [run_bind hlen, run_bind (run_sizeOf hE hT w), run_bind (hfc _ (Nat.min_le_left m n))]
            simp only []
            have hst := storeCells_run (P := E.P) (part.map (V.conc g.φ)) w (g.φ p.1) p.2 0 _ ty1 fz hheap hfz (by simp; omega) (fun v hv => by
              obtain ⟨c, hc, rfl⟩ := List.mem_map.1 hv
              exact solid_oneCell (hsol c hc))
            rw [Nat.add_zero, setRange_app _ _ _ _ (by simp; omega), setRange_putRange _ _ _ _ (by omega)] at hst
            rw [run_bind hst]
            rfl
        · cases h
      · cases h
    · cases h
  · cases h
end
end Go.Ab
end
