/- Abstract values and rules for them, proved sound over the model. -/
import Derived.Test.YtbdhocfaebchfaaOpLAbPure3
set_option linter.all false
set_option linter.unusedSimpArgs false
set_option linter.unusedVariables false
set_option linter.unnecessarySimpa false
section
/- Operations that only compute: addresses and parts. -/
namespace Go.Ab
open V
variable [Glob]
set_option linter.unusedSimpArgs false
set_option linter.unusedVariables false
set_option linter.unusedSectionVars false

theorem add_none (b o n : Nat) : (⟨b, o, none⟩ : Addr).add n = ⟨b, o + n, none⟩ := by
  unfold Addr.add; split <;> simp_all

theorem loadCellsFrom_run {P : Program} {w : World} {f : Nat → Nat} {b o : Nat} : ∀ (cs : List (V D)) (i : Nat) (acc : Array Value), CellsW f w b (o + i) cs →
    (loadCellsFrom ⟨b, o, none⟩ i cs.length acc).run P w = .ok (acc ++ (cs.map (V.conc f)).toArray) w := by
  intro cs
  induction cs with
  | nil => intro i acc _; simp [loadCellsFrom, Sem.run, Pure.pure]
  | cons c cs ih =>
    intro i acc h
    have h0 := h 0 c (by simp)
    simp only [Nat.add_zero] at h0
    simp only [List.length_cons, loadCellsFrom, add_none]
    rw [run_bind (show (load ⟨b, o + i, none⟩).run P w = .ok (V.conc f c) w by simp [load, Sem.run, h0])]
    rw [ih (i + 1) _ (fun j x hj => by have := h (j + 1) x (by simpa using hj); rw [show o + (i + 1) + j = o + i + (j + 1) by omega]; exact this)]
    simp
theorem loadCells_run {P : Program} {w : World} {f : Nat → Nat} {b o : Nat} {cs : List (V D)} (h : CellsW f w b o cs) :
    (loadCells ⟨b, o, none⟩ cs.length).run P w = .ok (cs.map (V.conc f)).toArray w := by
  unfold loadCells
  rw [loadCellsFrom_run cs 0 #[] (by simpa using h)]
  simp

section
variable {E : Env} {g : Ghost} {w : World} {N : Nat} {s : Operand → V D} (hE : E.Ok)
include hE

theorem fieldOf_run {t : TypeId} {f : Nat} {o : Nat} {u : Ty} (h : fieldOf E.T t f = some (o, u)) :
    ∃ fs fd, E.P.underlying t = some (.struct fs) ∧ fs[f]? = some fd ∧ fd.offset = o ∧ E.T fd.type = some u ∧ u.size ≠ 0 := by
  unfold fieldOf at h
  split at h
  · rename_i fs hd
    obtain ⟨gs, hu, rfl⟩ := und_st hE hd
    split at h
    · rename_i p hp
      rw [List.getElem?_map] at hp
      obtain ⟨fd, hfd, rfl⟩ := Option.map_eq_some_iff.1 hp
      split at h
      · rename_i u' hu'
        split at h
        · simp at h
        · simp only [Option.some.injEq, Prod.mk.injEq] at h
          obtain ⟨rfl, rfl⟩ := h
          exact ⟨gs, fd, hu, by simpa using hfd, rfl, hu', by assumption⟩
      · simp at h
    · simp at h
  · simp at h

omit hE in
theorem RdOk.mk' {cs : List (V D)} {b o : Nat} (hf : flaglessL cs = true) (hc : CellsAt g.φ w b o cs) (hl : o + cs.length ≤ g.F b) : RdOk g w cs { a := some (b, o) } :=
  ⟨hf, b, o, rfl, hc, hl⟩

theorem fieldAddr_pure (hs : ∀ x, Mem g w (s x) ∧ (s x).low N = true) {t : TypeId} {f : Nat} {x : Operand} {r : A} (h : (fieldAddrA E.T t f (s x).er).bind okv = some r) :
    PureOk E g w N s (.fieldAddr t x f) r := by
  obtain ⟨v, hv, h⟩ := Option.bind_eq_some_iff.1 h
  obtain ⟨rfl, hfl⟩ := okv_some h
  unfold fieldAddrA at hv
  split at hv
  · rename_i o u p hfo hx
    simp only [Option.some.injEq] at hv; subst hv
    obtain ⟨fs, fd, hu, hfd, rfl, hT, hz⟩ := fieldOf_run hE hfo
    have hm := hs x
    rw [er_ptr hx] at hm
    refine pureOk_of_value (sr := .ptr (some (p.1, p.2 + fd.offset))) ⟨rfl, rfl, by simp [Mem], by simpa [V.low] using hm.2⟩ (e := Go.Instr.fieldAt t (V.conc g.φ (s x)) f) ?_ (fun _ _ _ _ _ => rfl)
    rw [er_ptr hx]
    simp only [V.conc, Option.map_some, Go.Instr.fieldAt]
    rw [run_bind (run_underlying hu w)]
    simp only [hfd]
    rw [run_bind (show (Go.Instr.sureAddr (.pointer (some ⟨g.φ p.1, p.2, none⟩))).run E.P w = .ok ⟨g.φ p.1, p.2, none⟩ w from rfl)]
    rw [run_bind (show (fieldPlace ⟨g.φ p.1, p.2, none⟩ fd).run E.P w = .ok ⟨g.φ p.1, p.2 + fd.offset, none⟩ w by
      unfold fieldPlace
      rw [run_bind (run_sizeOf hE hT w), if_neg hz, add_none]; rfl)]
    rfl
  · rename_i o u cs hfo hx
    split at hv
    · rename_i hlt
      simp only [Option.some.injEq] at hv; subst hv
      obtain ⟨fs, fd, hu, hfd, rfl, hT, hz⟩ := fieldOf_run hE hfo
      obtain ⟨ys, d, hy, rfl⟩ := er_rd hx
      have hm := hs x
      rw [hy] at hm
      simp only [Mem, MemL_all, V.low, lowL_all, List.all_eq_true] at hm
      obtain ⟨⟨hm1, hf1, b, o, hd, hc, hle⟩, hlow⟩ := hm
      simp only [List.length_map] at hlt
      refine pureOk_of_value (sr := .rd (ys.drop fd.offset) { a := some (b, o + fd.offset) }) (Good.of (by simp [V.er, erL_map, List.map_drop]) hfl ?_ ?_) (e := Go.Instr.fieldAt t (V.conc g.φ (s x)) f) ?_ (fun _ _ _ _ _ => rfl)
      · simp only [Mem, MemL_all]
        refine ⟨fun y hy => hm1 y (List.mem_of_mem_drop hy), RdOk.mk' ?_ ?_ (by simp; omega)⟩
        · rw [flaglessL_all] at hf1 ⊢; simp only [List.all_eq_true] at hf1 ⊢; exact fun y hy => hf1 y (List.mem_of_mem_drop hy)
        · intro j c hj
          rw [List.getElem?_drop] at hj
          have := hc _ c hj
          rw [show o + fd.offset + j = o + (fd.offset + j) by omega]; exact this
      · simp only [V.low, lowL_all, List.all_eq_true]; exact fun y hy => hlow y (List.mem_of_mem_drop hy)
      · rw [hy]
        simp only [V.conc, hd, Option.map_some, Go.Instr.fieldAt]
        rw [run_bind (run_underlying hu w)]
        simp only [hfd]
        rw [run_bind (show (Go.Instr.sureAddr (.pointer (some ⟨b, o, none⟩))).run E.P w = .ok ⟨b, o, none⟩ w from rfl)]
        rw [run_bind (show (fieldPlace ⟨b, o, none⟩ fd).run E.P w = .ok ⟨b, o + fd.offset, none⟩ w by
          unfold fieldPlace
          rw [run_bind (run_sizeOf hE hT w), if_neg hz, add_none]; rfl)]
        rfl
    · simp at hv
  · simp at hv

omit hE in
theorem part_good {u : Ty} {cs : List (V D)} {o : Nat} {sr : V D} (hm : ∀ c ∈ cs, Mem g w c) (hl : ∀ c ∈ cs, c.low N = true)
    (h : (u.d.agg = true ∧ sr = .agg ((cs.drop o).take u.size) ∧ o + u.size ≤ cs.length) ∨ (u.d.agg = false ∧ cs[o]? = some sr)) : Mem g w sr ∧ sr.low N = true := by
  rcases h with ⟨_, rfl, _⟩ | ⟨_, h⟩
  · constructor
    · simp only [Mem, MemL_all]; exact fun c hc => hm c (List.mem_of_mem_drop (List.mem_of_mem_take hc))
    · simp only [V.low, lowL_all, List.all_eq_true]; exact fun c hc => hl c (List.mem_of_mem_drop (List.mem_of_mem_take hc))
  · exact ⟨hm _ (List.mem_of_getElem? h), hl _ (List.mem_of_getElem? h)⟩

theorem field_pure (hs : ∀ x, Mem g w (s x) ∧ (s x).low N = true) {t : TypeId} {f : Nat} {x : Operand} {r : A} (h : (fieldA E.T t f (s x).er).bind okv = some r) :
    PureOk E g w N s (.field t x f) r := by
  obtain ⟨v, hv, h⟩ := Option.bind_eq_some_iff.1 h
  obtain ⟨rfl, hfl⟩ := okv_some h
  unfold fieldA at hv
  split at hv
  · rename_i o u cs hfo hx
    obtain ⟨fs, fd, hu, hfd, rfl, hT, hz⟩ := fieldOf_run hE hfo
    obtain ⟨ys, hy, rfl⟩ := er_agg hx
    have hm := hs x
    rw [hy] at hm
    simp only [Mem, MemL_all, V.low, lowL_all, List.all_eq_true] at hm
    obtain ⟨sr, h1, h2, h3⟩ := part_run hE hT (f := g.φ) hv w
    have hg := part_good hm.1 hm.2 h3
    refine pureOk_of_value (sr := sr) (Good.of h1 hfl hg.1 hg.2) (e := Go.Instr.field t (V.conc g.φ (s x)) f) ?_ (fun _ _ _ _ _ => rfl)
    rw [hy]
    simp only [V.conc, concL_map, Go.Instr.field]
    rw [run_bind (run_underlying hu w)]
    simp only [hfd]
    rw [run_bind (show (asAgg (.agg (ys.map (V.conc g.φ)).toArray)).run E.P w = .ok (ys.map (V.conc g.φ)).toArray w from rfl)]
    exact h2
  · simp at hv

omit hE in
theorem asIntOf_run {k : IntKind} {n : Int} : (asIntOf (.int k n)).run E.P w = .ok (k, n) w := rfl

omit hE in
theorem Uni_get {es : Nat} {xs : List (V D)} (h : Uni es xs = true) {x : V D} (hx : x ∈ xs) : x.cells.length = es := by
  simp only [Uni, List.all_eq_true, beq_iff_eq] at h; exact h x hx

theorem indexAddr_pure (hs : ∀ x, Mem g w (s x) ∧ (s x).low N = true) {t : TypeId} {x i : Operand} {r : A} (h : (indexAddrA E.T t (s x).er (s i).er).bind okv = some r) :
    PureOk E g w N s (.indexAddr t x i) r := by
  obtain ⟨v, hv, h⟩ := Option.bind_eq_some_iff.1 h
  obtain ⟨rfl, hfl⟩ := okv_some h
  unfold indexAddrA at hv
  split at hv
  · rename_i e xs own k n hd hx hi
    split at hv
    · rename_i u hT
      split at hv
      · rename_i hown
        obtain ⟨hown, hU⟩ := hown
        split at hv
        · rename_i hn
          simp only [Option.some.injEq] at hv; subst hv
          obtain ⟨ys, d, hy, rfl⟩ := er_sl hx
          have hm := hs x
          rw [hy] at hm
          obtain rfl : own = none := by simpa using hown
          simp only [Mem, MemL_all, V.low, lowL_all, List.all_eq_true] at hm
          obtain ⟨⟨hm1, hU', hes, hcap, hso⟩, hlow⟩ := hm
          rw [er_Uni] at hU
          simp only [List.length_map] at hn
          have hlt : n.toNat < ys.length := by omega
          have hget : ys[n.toNat]? = some ys[n.toNat] := by simp [hlt]
          have hmem : ys[n.toNat] ∈ ys := List.getElem_mem hlt
          have hse : d.es = u.size := (Uni_get hU' hmem).symm.trans (Uni_get hU hmem)
          cases hda : d.a with
          | none => rw [hda] at hso; simp only at hso; rw [hso.1] at hlt; simp at hlt
          | some p =>
            obtain ⟨b, o⟩ := p
            rw [hda] at hso
            simp only at hso
            obtain ⟨hca, hfl', hF⟩ := hso
            have hF' : o + ys.length * d.es ≤ g.F b := hF.resolve_left (by rintro rfl; simp at hlt)
            have hcl := Uni_get hU' hmem
            have hmul : (n.toNat + 1) * d.es ≤ ys.length * d.es := Nat.mul_le_mul_right _ (by omega)
            rw [Nat.succ_mul] at hmul
            refine pureOk_of_value (sr := .rd ys[n.toNat].cells { a := some (b, o + n.toNat * d.es) })
              (Good.of ?_ hfl ?_ ?_) (e := Go.Instr.indexAt t (V.conc g.φ (s x)) (V.conc g.φ (s i))) ?_ (fun _ _ _ _ _ => rfl)
            · simp only [V.er, erL_map]
              rw [List.getD_eq_getElem?_getD, List.getElem?_map, hget]
              simp [er_cells]
            · simp only [Mem, MemL_all]
              refine ⟨fun c hc => ?_, RdOk.mk' ?_ ?_ (by rw [hcl]; omega)⟩
              · have := hm1 _ hmem
                cases hv : ys[n.toNat] <;> rw [hv] at hc this <;> simp_all [V.cells, Mem, MemL_all]
              · rw [flaglessL_all] at hfl' ⊢
                simp only [List.all_eq_true] at hfl' ⊢
                intro c hc
                have := hfl' _ hmem
                cases hv : ys[n.toNat] <;> rw [hv] at hc this <;> simp_all [V.cells, flagless, flaglessL_all]
              · intro j c hj
                have hjl : j < d.es := by rw [← hcl]; exact (List.getElem?_eq_some_iff.1 hj).1
                have := hca (n.toNat * d.es + j) c (by rw [flat_get hU' hget hjl]; exact hj)
                rw [show o + n.toNat * d.es + j = o + (n.toNat * d.es + j) by omega]
                exact this
            · simp only [V.low, lowL_all, List.all_eq_true]
              exact fun c hc => low_cells (hlow _ hmem) hc
            · rw [hy, er_int hi]
              simp only [V.conc, slA, hda, Option.map_some, Go.Instr.indexAt]
              rw [run_bind asIntOf_run]
              simp only []
              rw [run_bind (run_underlying (und_sl hE hd) w), run_bind (pure_run _ _)]
              simp only []
              rw [run_bind (run_underlying (und_sl hE hd) w)]
              simp only []
              rw [if_pos hn, run_bind (run_sizeOf hE hT w), add_none, hse]
              rfl
        · simp at hv
      · simp at hv
    · simp at hv
  · rename_i m e p k n hd hx hi
    split at hv
    · rename_i u hT
      split at hv
      · rename_i hn
        simp only [Option.some.injEq] at hv; subst hv
        have hm := hs x
        rw [er_ptr hx] at hm
        refine pureOk_of_value (sr := .ptr (some (p.1, p.2 + n.toNat * u.size))) ⟨rfl, rfl, by simp [Mem], by simpa [V.low] using hm.2⟩
          (e := Go.Instr.indexAt t (V.conc g.φ (s x)) (V.conc g.φ (s i))) ?_ (fun _ _ _ _ _ => rfl)
        rw [er_ptr hx, er_int hi]
        simp only [V.conc, Option.map_some, Go.Instr.indexAt]
        rw [run_bind asIntOf_run]
        simp only []
        rw [run_bind (run_underlying (und_arr hE hd) w)]
        simp only []
        rw [run_bind (show (Go.Instr.sureAddr (.pointer (some ⟨g.φ p.1, p.2, none⟩))).run E.P w = .ok ⟨g.φ p.1, p.2, none⟩ w from rfl), run_bind (pure_run _ _)]
        simp only []
        rw [run_bind (run_underlying (und_arr hE hd) w)]
        simp only []
        rw [if_pos hn, run_bind (run_sizeOf hE hT w), add_none]
        rfl
      · simp at hv
    · simp at hv
  · rename_i m e cs k n hd hx hi
    split at hv
    · rename_i u hT
      split at hv
      · rename_i hn
        split at hv
        · rename_i hlt
          simp only [Option.some.injEq] at hv; subst hv
          obtain ⟨ys, d, hy, rfl⟩ := er_rd hx
          have hm := hs x
          rw [hy] at hm
          simp only [Mem, MemL_all, V.low, lowL_all, List.all_eq_true] at hm
          obtain ⟨⟨hm1, hf1, b, o, hd', hc, hle⟩, hlow⟩ := hm
          simp only [List.length_map] at hlt
          refine pureOk_of_value (sr := .rd (ys.drop (n.toNat * u.size)) { a := some (b, o + n.toNat * u.size) }) (Good.of (by simp [V.er, erL_map, List.map_drop]) hfl ?_ ?_)
            (e := Go.Instr.indexAt t (V.conc g.φ (s x)) (V.conc g.φ (s i))) ?_ (fun _ _ _ _ _ => rfl)
          · simp only [Mem, MemL_all]
            refine ⟨fun y hy => hm1 y (List.mem_of_mem_drop hy), RdOk.mk' ?_ ?_ (by simp; omega)⟩
            · rw [flaglessL_all] at hf1 ⊢; simp only [List.all_eq_true] at hf1 ⊢; exact fun y hy => hf1 y (List.mem_of_mem_drop hy)
            · intro j c hj
              rw [List.getElem?_drop] at hj
              have := hc _ c hj
              rw [show o + n.toNat * u.size + j = o + (n.toNat * u.size + j) by omega]; exact this
          · simp only [V.low, lowL_all, List.all_eq_true]; exact fun y hy => hlow y (List.mem_of_mem_drop hy)
          · rw [hy, er_int hi]
            simp only [V.conc, hd', Option.map_some, Go.Instr.indexAt]
            rw [run_bind asIntOf_run]
            simp only []
            rw [run_bind (run_underlying (und_arr hE hd) w)]
            simp only []
            rw [run_bind (show (Go.Instr.sureAddr (.pointer (some ⟨b, o, none⟩))).run E.P w = .ok ⟨b, o, none⟩ w from rfl), run_bind (pure_run _ _)]
            simp only []
            rw [run_bind (run_underlying (und_arr hE hd) w)]
            simp only []
            rw [if_pos hn, run_bind (run_sizeOf hE hT w), add_none]
            rfl
        · simp at hv
      · simp at hv
    · simp at hv
  · rename_i e p m k n hd hx hi
    split at hv
    · rename_i u hT
      split at hv
      · rename_i hn
        simp only [Option.some.injEq] at hv; subst hv
        obtain ⟨d, hy⟩ := er_win hx
        have hm := hs x
        rw [hy] at hm
        refine pureOk_of_value (sr := .ptr (some (p.1, p.2 + n.toNat * u.size))) ⟨rfl, rfl, by simp [Mem], by simpa [V.low] using hm.2⟩
          (e := Go.Instr.indexAt t (V.conc g.φ (s x)) (V.conc g.φ (s i))) ?_ (fun _ _ _ _ _ => rfl)
        rw [hy, er_int hi]
        simp only [V.conc, Option.map_some, Go.Instr.indexAt]
        rw [run_bind asIntOf_run]
        simp only []
        rw [run_bind (run_underlying (und_sl hE hd) w), run_bind (pure_run _ _)]
        simp only []
        rw [run_bind (run_underlying (und_sl hE hd) w)]
        simp only []
        rw [if_pos hn, run_bind (run_sizeOf hE hT w), add_none]
        rfl
      · simp at hv
    · simp at hv
  · simp at hv

theorem index_pure (hs : ∀ x, Mem g w (s x) ∧ (s x).low N = true) {t : TypeId} {x i : Operand} {r : A} (h : (indexA E.T t (s x).er (s i).er).bind okv = some r) :
    PureOk E g w N s (.index t x i) r := by
  obtain ⟨v, hv, h⟩ := Option.bind_eq_some_iff.1 h
  obtain ⟨rfl, hfl⟩ := okv_some h
  unfold indexA at hv
  split at hv
  · rename_i b k n hd hx hi
    split at hv
    · rename_i hn
      simp only [Option.some.injEq] at hv; subst hv
      refine pureOk_of_scalar (.int .u8 _) (e := Go.Instr.index t (V.conc g.φ (s x)) (V.conc g.φ (s i))) ?_ (fun _ _ _ _ _ => rfl)
      rw [er_str hx, er_int hi]
      simp only [V.conc, Go.Instr.index]
      rw [run_bind asIntOf_run]
      simp only []
      rw [run_bind (run_underlying (und_str hE hd) w)]
      simp only []
      rw [if_pos hn.1]
      have hlt : n.toNat < b.size := by omega
      have hb : b[n.toNat]? = some b[n.toNat] := by simp [hlt]
      rw [hb]
      simp only [pure_run]
      congr 2
      have hlt' : n.toNat < b.data.toList.length := by simpa using hlt
      rw [List.getD_eq_getElem?_getD, List.getElem?_eq_getElem hlt']
      rfl
    · simp at hv
  · rename_i m e cs k n hd hx hi
    split at hv
    · rename_i u hT
      split at hv
      · rename_i hn
        obtain ⟨ys, hy, rfl⟩ := er_agg hx
        have hm := hs x
        rw [hy] at hm
        simp only [Mem, MemL_all, V.low, lowL_all, List.all_eq_true] at hm
        obtain ⟨sr, h1, h2, h3⟩ := part_run hE hT (f := g.φ) hv w
        have hg := part_good hm.1 hm.2 h3
        refine pureOk_of_value (sr := sr) (Good.of h1 hfl hg.1 hg.2) (e := Go.Instr.index t (V.conc g.φ (s x)) (V.conc g.φ (s i))) ?_ (fun _ _ _ _ _ => rfl)
        rw [hy, er_int hi]
        simp only [V.conc, concL_map, Go.Instr.index]
        rw [run_bind asIntOf_run]
        simp only []
        rw [run_bind (run_underlying (und_arr hE hd) w)]
        simp only []
        rw [if_pos hn, run_bind (run_sizeOf hE hT w)]
        exact h2
      · simp at hv
    · simp at hv
  · simp at hv

theorem makeInterface_pure (hs : ∀ x, Mem g w (s x) ∧ (s x).low N = true) {t : TypeId} {x : Operand} {r : A}
    (h : (match dOf E.T t with | .iface _ | .other => none | _ => okv (.iface t (s x).er)) = some r) : PureOk E g w N s (.makeInterface t x) r := by
  have hd : (∀ b, dOf E.T t ≠ .iface b) ∧ dOf E.T t ≠ .other ∧ okv (.iface t (s x).er) = some r := by
    split at h
    · simp at h
    · simp at h
    · rename_i h1 h2; exact ⟨fun b => h1 b, h2, h⟩
  obtain ⟨h1, h2, h⟩ := hd
  obtain ⟨rfl, hfl⟩ := okv_some h
  obtain ⟨d, hu, hni⟩ := und_not_iface hE h1 h2
  refine pureOk_of_value (sr := .iface t (s x)) (Good.of rfl hfl (by simpa [Mem] using (hs x).1) (by simpa [V.low] using (hs x).2))
    (e := Go.Instr.makeInterface t (V.conc g.φ (s x))) ?_ (fun _ _ _ _ _ => rfl)
  simp only [Go.Instr.makeInterface]
  rw [run_bind (run_underlying hu w)]
  cases d <;> first | rfl | exact absurd rfl (hni _)

omit hE in
theorem bound_run {x : Option Operand} {d l c : Nat} {y : Nat} {code : BoundsCode} (h : boundA (x.map fun o => (s o).er) d = some l) (hl : l ≤ y) :
    (∀ o, x = some o → (Go.Instr.sliceBound (V.conc g.φ (s o)) y code).run E.P w = .ok l w) ∧ (x = none → l = d) := by
  refine ⟨fun o ho => ?_, fun ho => ?_⟩
  · subst ho
    simp only [Option.map_some, boundA] at h
    split at h
    · simp at *
    · rename_i k n heq
      split at h
      · rename_i hn
        simp only [Option.some.injEq] at h heq
        subst h
        rw [er_int heq]
        simp only [V.conc, Go.Instr.sliceBound]
        rw [run_bind asIntOf_run]
        simp only []
        rw [if_pos ⟨hn, by omega⟩]
        rfl
      · simp at h
    · simp at h
  · subst ho; simpa [boundA] using h.symm

theorem slice_pure (hs : ∀ x, Mem g w (s x) ∧ (s x).low N = true) {t : TypeId} {x : Operand} {lo hi mx : Option Operand} {r : A}
    (h : (sliceA E.T t (s x).er (lo.map fun o => (s o).er) (hi.map fun o => (s o).er) (mx.map fun o => (s o).er)).bind okv = some r) :
    PureOk E g w N s (.slice t x lo hi mx) r := by
  obtain ⟨v, hv, h⟩ := Option.bind_eq_some_iff.1 h
  obtain ⟨rfl, hfl⟩ := okv_some h
  unfold sliceA at hv
  split at hv
  · rename_i b hd hx
    split at hv
    · rename_i l hh hmx hlo hhi
      split at hv
      · rename_i hle
        simp only [Option.some.injEq] at hv; subst hv
        obtain rfl : mx = none := by simpa using hmx
        refine pureOk_of_scalar (.str _) (e := Go.Instr.sliceAt t (V.conc g.φ (s x)) (lo.map fun o => V.conc g.φ (s o)) (hi.map fun o => V.conc g.φ (s o)) none) ?_ (fun _ _ _ _ _ => rfl)
        rw [er_str hx]
        simp only [V.conc, Go.Instr.sliceAt]
        rw [run_bind (run_underlying (und_str hE hd) w)]
        simp only [Go.Instr.slice]
        rw [run_bind (run_underlying (und_str hE hd) w)]
        simp only [Option.isSome_none, Bool.false_eq_true, if_false]
        have hb : (Go.Instr.sliceBounds false b.size b.size (lo.map fun o => V.conc g.φ (s o)) (hi.map fun o => V.conc g.φ (s o)) none).run E.P w = .ok (l, hh, b.size) w := by
          unfold Go.Instr.sliceBounds
          rw [run_bind (pure_run _ _)]
          have h1 := bound_run (E := E) (g := g) (w := w) (s := s) (c := 0) (y := b.size) (code := .sliceAlen) hhi hle.2
          have h2 := bound_run (E := E) (g := g) (w := w) (s := s) (c := 0) (y := hh) (code := .sliceB) hlo hle.1
          cases hi with
          | none =>
            obtain rfl := h1.2 rfl
            simp only [Option.map_none]
            rw [run_bind (pure_run _ _)]
            cases lo with
            | none => obtain rfl := h2.2 rfl; rfl
            | some lo' => simp only [Option.map_some, Option.isSome_none, Option.isSome_some, Bool.false_eq_true, if_false, if_true]; rw [run_bind (h2.1 _ rfl)]; rfl
          | some hi' =>
            simp only [Option.map_some, Option.isSome_none, Option.isSome_some, Bool.false_eq_true, if_false, if_true]
            rw [run_bind (show (Go.Instr.sliceBound (V.conc g.φ (s hi')) b.size .sliceAlen).run E.P w = .ok hh w from h1.1 _ rfl)]
            cases lo with
            | none => obtain rfl := h2.2 rfl; rfl
            | some lo' => simp only [Option.map_some, Option.isSome_none, Option.isSome_some, Bool.false_eq_true, if_false, if_true]; rw [run_bind (h2.1 _ rfl)]; rfl
        rw [run_bind hb]
        rfl
      · simp at hv
    · simp at hv
  · rename_i e xs own hd hx
    split at hv
    · rename_i u l hh hT hlo hhi
      split at hv
      · rename_i hcond
        obtain ⟨hown, hU, hlh, hhl, hmx, hmh⟩ := hcond
        simp only [Option.some.injEq] at hv; subst hv
        obtain ⟨ys, d, hy, rfl⟩ := er_sl hx
        have hm := hs x
        rw [hy] at hm
        obtain rfl : own = none := by simpa using hown
        simp only [Mem, MemL_all, V.low, lowL_all, List.all_eq_true] at hm
        obtain ⟨⟨hm1, hU', hes, hcap, hso⟩, hlow⟩ := hm
        rw [er_Uni] at hU
        simp only [List.length_map] at hhl hmx hcap
        -- the third bound
        have hm3 : ∃ m, (∀ o, mx = some o → ∃ k, s o = .int k (m : Nat)) ∧ (mx = none → m = d.cap) ∧ hh ≤ m ∧ m ≤ d.cap := by
          cases mx with
          | none => exact ⟨d.cap, by simp, fun _ => rfl, Nat.le_trans hhl hcap, Nat.le_refl _⟩
          | some o =>
            simp only [Option.map_some] at hmx
            unfold maxOk at hmx
            split at hmx
            · simp at *
            · rename_i k n heq
              simp only [Option.some.injEq] at heq
              simp only [Bool.and_eq_true, decide_eq_true_eq] at hmx
              exact ⟨n.toNat, fun o' ho' => by simp only [Option.some.injEq] at ho'; subst ho'; exact ⟨k, by rw [er_int heq]; congr 1; omega⟩, by simp, by omega, by omega⟩
            · simp at hmx
        obtain ⟨m, hm3a, hm3b, hm3c, hm3d⟩ := hm3
        have hb : (Go.Instr.sliceBounds true ys.length d.cap (lo.map fun o => V.conc g.φ (s o)) (hi.map fun o => V.conc g.φ (s o)) (mx.map fun o => V.conc g.φ (s o))).run E.P w = .ok (l, hh, m) w := by
          have hbad : ¬ (mx ≠ none ∧ hi = none) := fun ⟨h1, h2⟩ => by
            subst h2; cases mx with
            | none => exact h1 rfl
            | some _ => simp at hmh
          · skip
            unfold Go.Instr.sliceBounds
            have h2 : ∀ code, (∀ o, lo = some o → (Go.Instr.sliceBound (V.conc g.φ (s o)) hh code).run E.P w = .ok l w) ∧ (lo = none → l = 0) := fun code => bound_run (c := 0) hlo hlh
            cases mx with
            | none =>
              obtain rfl := hm3b rfl
              simp only [Option.map_none]
              rw [run_bind (pure_run _ _)]
              have h1 := bound_run (E := E) (g := g) (w := w) (s := s) (c := 0) (y := d.cap) (code := .sliceAcap) hhi (by omega)
              cases hi with
              | none =>
                obtain rfl := h1.2 rfl
                simp only [Option.map_none, List.length_map]
                rw [run_bind (pure_run _ _)]
                cases lo with
                | none => obtain rfl := (h2 .sliceB).2 rfl; rfl
                | some lo' => simp only [Option.map_some, Option.isSome_none, Option.isSome_some, Bool.false_eq_true, if_false, if_true]; rw [run_bind (show (Go.Instr.sliceBound (V.conc g.φ (s lo')) ys.length _).run E.P w = .ok l w by simpa using (h2 .sliceB).1 _ rfl)]; rfl
              | some hi' =>
                simp only [Option.map_some, Option.isSome_none, Option.isSome_some, Bool.false_eq_true, if_false, if_true]
                rw [run_bind (show (Go.Instr.sliceBound (V.conc g.φ (s hi')) d.cap .sliceAcap).run E.P w = .ok hh w from h1.1 _ rfl)]
                cases lo with
                | none => obtain rfl := (h2 .sliceB).2 rfl; rfl
                | some lo' => simp only [Option.map_some, Option.isSome_none, Option.isSome_some, Bool.false_eq_true, if_false, if_true]; rw [run_bind (show (Go.Instr.sliceBound (V.conc g.φ (s lo')) hh _).run E.P w = .ok l w from (h2 .sliceB).1 _ rfl)]; rfl
            | some mo =>
              obtain ⟨k, hk⟩ := hm3a mo rfl
              simp only [Option.map_some, Option.isSome_none, Option.isSome_some, Bool.false_eq_true, if_false, if_true]
              have h0 : (Go.Instr.sliceBound (V.conc g.φ (s mo)) d.cap .slice3Acap).run E.P w = .ok m w := by
                rw [hk]
                simp only [V.conc, Go.Instr.sliceBound]
                rw [run_bind asIntOf_run]
                simp only []
                rw [if_pos (by omega)]
                simp [Sem.run, Pure.pure]
              rw [run_bind (show (Go.Instr.sliceBound (V.conc g.φ (s mo)) d.cap .slice3Acap).run E.P w = .ok m w from h0)]
              have h1 := bound_run (E := E) (g := g) (w := w) (s := s) (c := 0) (y := m) (code := .slice3B) hhi hm3c
              cases hi with
              | none => exact absurd ⟨by simp, rfl⟩ hbad
              | some hi' =>
                simp only [Option.map_some, Option.isSome_none, Option.isSome_some, Bool.false_eq_true, if_false, if_true]
                rw [run_bind (h1.1 _ rfl)]
                cases lo with
                | none => obtain rfl := (h2 .slice3C).2 rfl; rfl
                | some lo' => simp only [Option.map_some, Option.isSome_none, Option.isSome_some, Bool.false_eq_true, if_false, if_true]; rw [run_bind (show (Go.Instr.sliceBound (V.conc g.φ (s lo')) hh _).run E.P w = .ok l w from (h2 .slice3C).1 _ rfl)]; rfl
        have hse : ys ≠ [] → d.es = u.size := fun hne => by
          obtain ⟨y, hy⟩ := List.exists_mem_of_ne_nil ys hne
          exact (Uni_get hU' hy).symm.trans (Uni_get hU hy)
        have hsub : ∀ v ∈ (ys.take hh).drop l, v ∈ ys := fun v hv => List.mem_of_mem_take (List.mem_of_mem_drop hv)
        have hlen : ((ys.take hh).drop l).length = hh - l := by simp; omega
        refine pureOk_of_value (sr := .sl ((ys.take hh).drop l) none { a := if m = l then d.a else d.a.map fun p => (p.1, p.2 + l * u.size), cap := m - l, es := d.es, wa := d.wa })
          (Good.of (by simp [V.er, erL_map, List.map_drop, List.map_take]) hfl ?_ ?_)
          (e := Go.Instr.sliceAt t (V.conc g.φ (s x)) (lo.map fun o => V.conc g.φ (s o)) (hi.map fun o => V.conc g.φ (s o)) (mx.map fun o => V.conc g.φ (s o))) ?_ (fun _ _ _ _ _ => rfl)
        · simp only [Mem, MemL_all]
          refine ⟨fun v hv => hm1 v (hsub v hv), ?_, hes, by rw [hlen]; simp only; omega, ?_⟩
          · simp only [Uni, List.all_eq_true, beq_iff_eq] at hU' ⊢; exact fun v hv => hU' v (hsub v hv)
          · cases hda : d.a with
            | none =>
              rw [hda] at hso
              simp only at hso
              simp only [Option.map_none, ite_self]
              exact ⟨by rw [hso.1]; simp, by omega⟩
            | some p =>
              obtain ⟨b, o⟩ := p
              rw [hda] at hso
              simp only at hso
              obtain ⟨hca, hfl', hF⟩ := hso
              have hflg : flaglessL ((ys.take hh).drop l) = true := by
                rw [flaglessL_all] at hfl' ⊢; simp only [List.all_eq_true] at hfl' ⊢; exact fun v hv => hfl' v (hsub v hv)
              by_cases hml : m = l
              · rw [if_pos hml]
                have he : (ys.take hh).drop l = [] := List.eq_nil_of_length_eq_zero (by rw [hlen]; omega)
                simp only
                exact ⟨by rw [he]; intro j c hj; simp [flat] at hj, hflg, .inl he⟩
              · rw [if_neg hml]
                simp only [Option.map_some, Option.isSome_none, Option.isSome_some, Bool.false_eq_true, if_false, if_true]
                refine ⟨?_, hflg, ?_⟩
                · intro j c hj
                  have hne : ys ≠ [] := by rintro rfl; simp [flat] at hj
                  rw [← hse hne]
                  have hsplit : flat ys = flat (ys.take l) ++ (flat ((ys.take hh).drop l) ++ flat (ys.drop hh)) := by
                    rw [← flat_append, ← flat_append]
                    congr 1
                    rw [← List.append_assoc]
                    have : ys.take l ++ (ys.take hh).drop l = ys.take hh := by
                      rw [show ys.take l = (ys.take hh).take l by rw [List.take_take, Nat.min_eq_left hlh], List.take_append_drop]
                    rw [this, List.take_append_drop]
                  have hl1 : (flat (ys.take l)).length = l * d.es := by
                    rw [flat_length (es := d.es) (by simp only [Uni, List.all_eq_true, beq_iff_eq] at hU' ⊢; exact fun v hv => hU' v (List.mem_of_mem_take hv)), List.length_take, Nat.min_eq_left (by omega)]
                  have := hca (l * d.es + j) c (by
                    rw [hsplit, List.getElem?_append_right (by omega), hl1, Nat.add_sub_cancel_left, List.getElem?_append_left (List.getElem?_eq_some_iff.1 hj).1]; exact hj)
                  rw [show o + l * d.es + j = o + (l * d.es + j) by omega]
                  exact this
                · rcases hF with rfl | hF
                  · exact .inl (by simp)
                  · by_cases hne : ys = []
                    · exact .inl (by rw [hne]; simp)
                    · refine .inr ?_
                      rw [hlen, ← hse hne, Nat.add_assoc, ← Nat.add_mul]
                      have : (l + (hh - l)) * d.es ≤ ys.length * d.es := Nat.mul_le_mul_right _ (by omega)
                      omega
        · simp only [V.low, lowL_all, List.all_eq_true]; exact fun v hv => hlow v (hsub v hv)
        · rw [hy]
          simp only [V.conc, Go.Instr.sliceAt]
          rw [run_bind (run_underlying (und_sl hE hd) w)]
          simp only [Go.Instr.slice]
          rw [run_bind (run_underlying (und_sl hE hd) w)]
          simp only []
          rw [run_bind hb, run_bind (run_sizeOf hE hT w)]
          simp only [pure_run, hlen]
          congr 2
          cases hda : d.a with
          | none =>
            rw [hda] at hso
            simp only at hso
            rw [if_pos (by omega), if_pos (by omega)]
            simp [slA, hda]
          | some p => by_cases hml : m = l <;> simp [hml, add_none, slA, hda]
      · simp at hv
    · simp at hv
  · rename_i e p n hd hx
    split at hv
    · rename_i u l hh hT hlo hhi hmx
      obtain rfl : mx = none := by simpa using hmx
      obtain ⟨d, hy⟩ := er_win hx
      have hm := hs x
      rw [hy] at hm
      simp only [Mem, V.low, decide_eq_true_eq] at hm
      have hb : l ≤ hh → hh ≤ n → (Go.Instr.sliceBounds true n d.cap (lo.map fun o => V.conc g.φ (s o)) (hi.map fun o => V.conc g.φ (s o)) none).run E.P w = .ok (l, hh, d.cap) w := by
        intro hlh hhl
        unfold Go.Instr.sliceBounds
        have h2 : ∀ code, (∀ o, lo = some o → (Go.Instr.sliceBound (V.conc g.φ (s o)) hh code).run E.P w = .ok l w) ∧ (lo = none → l = 0) := fun code => bound_run (c := 0) hlo hlh
        rw [run_bind (pure_run _ _)]
        have h1 := bound_run (E := E) (g := g) (w := w) (s := s) (c := n) (y := d.cap) (code := .sliceAcap) hhi (by omega)
        cases hi with
        | none =>
          obtain rfl := h1.2 rfl
          simp only [Option.map_none]
          rw [run_bind (pure_run _ _)]
          cases lo with
          | none => obtain rfl := (h2 .sliceB).2 rfl; rfl
          | some lo' => simp only [Option.map_some, Option.isSome_none, Option.isSome_some, Bool.false_eq_true, if_false, if_true]; rw [run_bind (show (Go.Instr.sliceBound (V.conc g.φ (s lo')) hh _).run E.P w = .ok l w from (h2 .sliceB).1 _ rfl)]; rfl
        | some hi' =>
          simp only [Option.map_some, Option.isSome_none, Option.isSome_some, Bool.false_eq_true, if_false, if_true]
          rw [run_bind (show (Go.Instr.sliceBound (V.conc g.φ (s hi')) d.cap .sliceAcap).run E.P w = .ok hh w from h1.1 _ rfl)]
          cases lo with
          | none => obtain rfl := (h2 .sliceB).2 rfl; rfl
          | some lo' => simp only [Option.map_some, Option.isSome_none, Option.isSome_some, Bool.false_eq_true, if_false, if_true]; rw [run_bind (show (Go.Instr.sliceBound (V.conc g.φ (s lo')) hh _).run E.P w = .ok l w from (h2 .sliceB).1 _ rfl)]; rfl
      have hrun : l ≤ hh → hh ≤ n → (Go.Instr.sliceAt t (V.conc g.φ (s x)) (lo.map fun o => V.conc g.φ (s o)) (hi.map fun o => V.conc g.φ (s o)) none).run E.P w =
          .ok (.slice (if d.cap = l then some ⟨g.φ p.1, p.2, none⟩ else some ⟨g.φ p.1, p.2 + l * u.size, none⟩) (hh - l) (d.cap - l)) w := by
        intro h1 h2
        rw [hy]
        simp only [V.conc, Go.Instr.sliceAt]
        rw [run_bind (run_underlying (und_sl hE hd) w)]
        simp only [Go.Instr.slice]
        rw [run_bind (run_underlying (und_sl hE hd) w)]
        simp only []
        rw [run_bind (hb h1 h2), run_bind (run_sizeOf hE hT w)]
        simp only [pure_run, Option.map_some, add_none]
      split at hv
      · rename_i hc
        simp only [Option.some.injEq] at hv; subst hv
        refine pureOk_of_value (sr := .win (p.1, p.2 + l * u.size) (hh - l) { cap := d.cap - l }) (Good.of rfl hfl (by simp only [Mem]; omega) (by simpa [V.low] using hm.2))
          (e := Go.Instr.sliceAt t (V.conc g.φ (s x)) (lo.map fun o => V.conc g.φ (s o)) (hi.map fun o => V.conc g.φ (s o)) none) ?_ (fun _ _ _ _ _ => rfl)
        rw [hrun (by omega) hc.2, if_neg (by omega)]
        rfl
      · split at hv
        · rename_i hc
          simp only [Option.some.injEq] at hv; subst hv
          obtain ⟨rfl, hc2⟩ := hc
          refine pureOk_of_value (sr := .sl [] none { a := some (g.φ p.1, if d.cap = l then p.2 else p.2 + l * u.size), cap := d.cap - l, es := 1 })
            (Good.of rfl hfl (by simp [Mem, MemL, SlOk, Uni, flat, flaglessL, CellsAt]) rfl)
            (e := Go.Instr.sliceAt t (V.conc g.φ (s x)) (lo.map fun o => V.conc g.φ (s o)) (hi.map fun o => V.conc g.φ (s o)) none) ?_ (fun _ _ _ _ _ => rfl)
          rw [hrun (Nat.le_refl _) hc2]
          simp only [V.conc, slA, List.length_nil, Nat.sub_self]
          by_cases hcl : d.cap = l
          · rw [if_pos hcl, if_pos hcl]
          · rw [if_neg hcl, if_neg hcl]
        · simp at hv
    · simp at hv
  · simp at hv
end
end Go.Ab
end
