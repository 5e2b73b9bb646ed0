/- Abstract values and rules for them, proved sound over the model. -/
import Derived.Test.YtbdhocfaebchfaaOpLAbAl2
set_option linter.all false
set_option linter.unusedSimpArgs false
set_option linter.unusedVariables false
set_option linter.unnecessarySimpa false
section
/- Elements that are read and written through such slots. -/
namespace Go.Ab
open V
variable [Glob]
set_option linter.unusedSimpArgs false
set_option linter.unusedVariables false
set_option linter.unusedSectionVars false

theorem cells_cases (z : V D) : (∃ cs, z = .agg cs) ∨ z.cells = [z] := by
  cases z <;> first | exact .inl ⟨_, rfl⟩ | exact .inr rfl
theorem mem_of_cells {g : Ghost} {w : World} {z : V D} (h : ∀ c ∈ z.cells, Mem g w c) : Mem g w z := by
  rcases cells_cases z with ⟨cs, rfl⟩ | e
  · simp only [Mem, MemL_all]; exact h
  · exact h z (by rw [e]; simp)
theorem mem_cells {g : Ghost} {w : World} {z : V D} (h : Mem g w z) : ∀ c ∈ z.cells, Mem g w c := by
  rcases cells_cases z with ⟨cs, rfl⟩ | e
  · simp only [Mem, MemL_all] at h; exact h
  · rw [e]; intro c hc; rw [List.mem_singleton.1 hc]; exact h
theorem low_of_cells {n : Nat} {z : V D} (h : ∀ c ∈ z.cells, c.low n = true) : z.low n = true := by
  rcases cells_cases z with ⟨cs, rfl⟩ | e
  · simp only [V.low, lowL_all, List.all_eq_true]; exact h
  · exact h z (by rw [e]; simp)
theorem flagless_cells {z : V D} (h : z.flagless = true) : ∀ c ∈ z.cells, c.flagless = true := by
  rcases cells_cases z with ⟨cs, rfl⟩ | e
  · simp only [flagless, flaglessL_all, List.all_eq_true] at h; exact h
  · rw [e]; intro c hc; rw [List.mem_singleton.1 hc]; exact h
theorem fl_cells (z : V D) : flL z.cells = z.fl := by
  rcases cells_cases z with ⟨cs, rfl⟩ | e
  · rfl
  · rw [e]; simp [flL]

section
variable {E : Env} (hE : E.Ok) {fr : Fr} {g : Ghost} {vs : List (V D)} {Hs : List (Ob D)} {w : World} {st : St} {a : Act} {m : Tmp → Bool}
include hE

theorem loadel_alias (hR : Rel fr g vs Hs w) (hA : At fr E.n g.φ st vs Hs a) {al : List Al} (hAl : ∀ x ∈ al, AlOk a w x) {p d es idx off : Nat} {own : Ow} {t ty' : TypeId} {pos : String} {aft : Array Edge} {gd : Option (Nat × Bool)} {xs' : List A} {k : Nat} {u : Ty} {x' v : A}
    (hh : elOf al p = some (own, es, idx, off)) (ho : ownGet st own = some (xs', k)) (hu : E.T t = some u) (hx : xs'[idx]? = some x') (hp : partA u x'.cells off = some v) (hf : v.flagless = true) (hg : goodD E al d = true)
    (hes : ∀ (xs : List (V D)) (dd : D), Mem g w (.sl xs (some k) dd) → xs' = xs.map er → dd.es = es) :
    AliasOk E fr a w ⟨some d, .load t (.tmp p), ty', pos, aft, gd⟩ al (setU st d v) := by
  obtain ⟨xs, dd, rfl, hm, hl, hraw, _⟩ := ownGet_spec hE hR hA ho
  obtain ⟨hd, hfree⟩ := goodD_lt hE hg
  obtain ⟨b, o, len, cap, hraw2, htmp⟩ := hAl _ (elOf_mem hh)
  have hees := hes xs dd hm rfl
  rw [hraw] at hraw2
  have hm0 := hm
  simp only [Mem, MemL_all] at hm
  obtain ⟨hm1, hUx, hes0, hcap, hs⟩ := hm
  simp only [V.conc, Option.some.injEq, Value.slice.injEq] at hraw2
  obtain ⟨hda', rfl, rfl⟩ := hraw2
  rw [List.getElem?_map] at hx
  obtain ⟨x, hxi, rfl⟩ := Option.map_eq_some_iff.1 hx
  cases hda : dd.a with
  | none => rw [hda] at hs; simp only at hs; rw [hs.1] at hxi; simp at hxi
  | some p0 =>
    obtain ⟨b0, o0⟩ := p0
    rw [hda] at hs
    simp only [slA, hda, Option.some.injEq, Addr.mk.injEq, and_true] at hda'
    obtain ⟨rfl, rfl⟩ := hda'
    simp only at hs
    obtain ⟨hca, _⟩ := hs
    rw [er_cells] at hp
    obtain ⟨sr, hsr, hpp⟩ := partA_er hE hp
    have hxm := List.mem_of_getElem? hxi
    have hxl : x.cells.length = dd.es := Uni_get hUx hxm
    have hxM : ∀ c ∈ x.cells, Mem g w c := mem_cells (hm1 x hxm)
    have hxL : ∀ c ∈ x.cells, c.low Hs.length = true := by
      intro c hc
      simp only [V.low, lowL_all, List.all_eq_true] at hl
      exact low_cells (hl x hxm) hc
    have hgood := part_good hxM hxL hpp
    have hev : a.eval (.tmp p) = .pointer (some ⟨b0, o0 + (idx * es + off), none⟩) := by
      show a.tmps.getD p undef = _
      rw [Array.getD_eq_getD_getElem?, htmp]; rfl
    have hrun : (Go.Instr.loadAt t (a.eval (.tmp p))).run E.P w = .ok (V.conc g.φ sr) w := by
      rw [hev]
      simp only [Go.Instr.loadAt]
      rw [run_bind (show (Go.Instr.sureAddr (.pointer (some ⟨b0, o0 + (idx * es + off), none⟩))).run E.P w = .ok ⟨b0, o0 + (idx * es + off), none⟩ w from rfl)]
      refine loadVar_run hE hu (cs := x.cells.drop off) ?_ (hpp.imp (fun h => ⟨h.1, h.2.1, by have := h.2.2; simp; omega⟩) (fun h => ⟨h.1, by simpa using h.2⟩))
      intro j c hj
      rw [List.getElem?_drop] at hj
      have hjl : off + j < dd.es := by rw [← hxl]; exact (List.getElem?_eq_some_iff.1 hj).1
      have hfl := flat_get hUx hxi hjl
      rw [hj] at hfl
      have := (hca _ c hfl).2
      rw [← hees, show o0 + (idx * dd.es + off) + j = o0 + (idx * dd.es + (off + j)) by omega]
      exact this
    have hput : put E (some d) sr.er st = some (setU st d v) := by rw [hsr]; simp only [put, hd, if_true]; rfl
    have hfl : sr.fl = [] := fl_nil (by rw [← er_flagless, hsr]; exact hf)
    obtain ⟨vs', k1, k2⟩ := put_sound hE (hR.cons hgood.1 hgood.2 hfl) hA hput
    refine ⟨_, g, vs', Hs, w, .inl ?_, k1, k2, fun x hx => (hAl x hx).put (hfree x hx)⟩
    show (do pure (Next.value (← Go.Instr.loadAt t (a.eval (.tmp p))))).run E.P w = _
    exact value_run' hrun

/-- The new element. -/
def elPutV (y : V D) (off : Nat) (v : V D) : V D := match y with | .agg cs => .agg (putRange cs off v.cells) | _ => v

omit hE in
theorem elPutV_er (y : V D) (off : Nat) (v : V D) : (elPutV y off v).er = elPut y.er off v.er := by
  cases y <;> first | rfl | (simp only [elPutV, elPut, V.er, erL_map, er_cells, putRange, List.map_append, List.map_take, List.map_drop, List.length_map])

theorem storeel_alias (hR : Rel fr g vs Hs w) (hA : At fr E.n g.φ st vs Hs a) {al : List Al} (hAl : ∀ x ∈ al, AlOk a w x) {p es idx off : Nat} {own : Ow} {t ty' : TypeId} {x : Operand} {pos : String} {aft : Array Edge} {gd : Option (Nat × Bool)} {xs' : List A} {k : Nat} {u : Ty} {y' : A}
    (hh : elOf al p = some (own, es, idx, off)) (ho : ownGet st own = some (xs', k)) (hu : E.T t = some u) (hy : xs'[idx]? = some y') (hk : k ≤ idx) (hf : (ev st x).flagless = true) (hlen : (ev st x).cells.length = u.size)
    (hsol : (ev st x).cells.all solid = true) (hoff : off + u.size ≤ y'.cells.length) (hag : isAgg y' = true ∨ (y'.one = true ∧ (ev st x).one = true)) (hlow : ownLow st (ev st x) own = true)
    (hes : ∀ (xs : List (V D)) (dd : D), Mem g w (.sl xs (some k) dd) → xs' = xs.map er → dd.es = es) :
    AliasOk E fr a w ⟨none, .store t (.tmp p) x, ty', pos, aft, gd⟩ (al.filter (fun z => !z.isVia)) (ownSet st (xs'.set idx (elPut y' off (ev st x))) k own) := by
  obtain ⟨xs, dd, rfl, hm, hl, hraw, hown⟩ := ownGet_spec hE hR hA ho
  obtain ⟨b, o, len, cap, hraw2, htmp⟩ := hAl _ (elOf_mem hh)
  have hees := hes xs dd hm rfl
  subst hees
  rw [hraw] at hraw2
  have hm0 := hm
  simp only [Mem, MemL_all] at hm
  obtain ⟨hm1, hUx, hes0, hcap, hs⟩ := hm
  simp only [V.conc, Option.some.injEq, Value.slice.injEq] at hraw2
  obtain ⟨hda', rfl, rfl⟩ := hraw2
  rw [List.getElem?_map] at hy
  obtain ⟨y, hyi, rfl⟩ := Option.map_eq_some_iff.1 hy
  have hyin := List.mem_of_getElem? hyi
  have hyl : y.cells.length = dd.es := Uni_get hUx hyin
  obtain ⟨hsm, hsl⟩ := hA.mem_sev hR x
  have hser : (sev vs a x).er = ev st x := (hA.ev_eq x).symm
  have hscv : a.eval x = V.conc g.φ (sev vs a x) := hA.conc_eq x
  generalize sev vs a x = sv at hsm hsl hser hscv
  rw [← hser] at hf hlen hsol hag hlow ⊢
  rw [er_flagless] at hf
  have hsc := solid_cells (g := g) hE hsol
  have hlen' : sv.cells.length = u.size := by rw [← hlen, er_cells, List.length_map]
  have hoff' : off + sv.cells.length ≤ dd.es := by rw [hlen', ← hyl]; rw [er_cells, List.length_map] at hoff; exact hoff
  cases hda : dd.a with
  | none => rw [hda] at hs; simp only at hs; rw [hs.1] at hyi; simp at hyi
  | some p0 =>
    obtain ⟨b0, o0⟩ := p0
    simp only [slA, hda, Option.some.injEq, Addr.mk.injEq, and_true] at hda'
    obtain ⟨rfl, rfl⟩ := hda'
    have hev : a.eval (.tmp p) = .pointer (some ⟨b0, o0 + (idx * dd.es + off), none⟩) := by
      show a.tmps.getD p undef = _
      rw [Array.getD_eq_getD_getElem?, htmp]; rfl
    -- the cells that are written
    have hpf : ∀ c ∈ sv.cells, c.flagless = true := flagless_cells hf
    have hpM : ∀ c ∈ sv.cells, Mem g w c := mem_cells hsm
    have hpL : ∀ c ∈ sv.cells, c.low Hs.length = true := fun c hc => low_cells hsl hc
    have hpfl : flL sv.cells = [] := flL_nil (by rw [flaglessL_all]; simpa using hpf)
    -- the new element
    have hnew : (elPutV y off sv).cells = putRange y.cells off sv.cells := by
      rcases hag with hag | ⟨h1, h2⟩
      · cases y <;> simp [isAgg, V.er] at hag
        rfl
      · rw [er_one] at h1 h2
        have e1 := cells_ne h1
        have e2 := cells_ne h2
        have hlen1 : sv.cells.length = 1 := by rw [e2]; rfl
        have hd1 : dd.es = 1 := by rw [← hyl, e1]; rfl
        have hoff0 : off = 0 := by omega
        subst hoff0
        rw [e1, e2]
        have e3 : elPutV y 0 sv = sv := by
          cases y <;> first | rfl | (simp [V.one] at h1)
        rw [e3, e2]; rfl
    have hcnt : ∀ v, (elPutV y off sv).fl.count v ≤ y.fl.count v := by
      intro v
      rw [← fl_cells, ← fl_cells y, hnew]
      simp only [putRange, flL_append, List.count_append, hpfl, List.count_nil]
      have hspl : (flL y.cells).count v = (flL (y.cells.take off)).count v + ((flL ((y.cells.drop off).take sv.cells.length)).count v + (flL (y.cells.drop (off + sv.cells.length))).count v) := by
        conv => lhs; rw [range_split y.cells off sv.cells.length (by omega)]
        simp only [flL_append, List.count_append]
      omega
    have hsub : ∀ v ∈ (elPutV y off sv).fl, v ∈ y.fl := fun v hv => List.count_pos_iff.1 (Nat.lt_of_lt_of_le (List.count_pos_iff.2 hv) (hcnt v))
    have hnm : ∀ g' w', (∀ c ∈ (elPutV y off sv).cells, Mem g' w' c) → Mem g' w' (elPutV y off sv) := fun g' w' h => mem_of_cells h
    have hnl : (∀ c ∈ (elPutV y off sv).cells, c.low Hs.length = true) → (elPutV y off sv).low Hs.length = true := low_of_cells
    have hym : ∀ c ∈ y.cells, Mem g w c ∧ ∀ v ∈ c.fl, v ∈ y.fl := fun c hc => ⟨mem_cells (hm1 y hyin) c hc, fun v hv => by rw [← fl_cells]; exact flL_mem.2 ⟨c, hc, hv⟩⟩
    have hconc : V.conc g.φ (.sl (xs.set idx (elPutV y off sv)) (some k) dd) = V.conc g.φ (.sl xs (some k) dd) := by simp [V.conc]
    have hxs : (xs.map er).set idx (elPut y.er off sv.er) = (xs.set idx (elPutV y off sv)).map er := by rw [List.map_set, elPutV_er]
    have htmpsame : ∀ (w' : World), ∀ z ∈ al.filter (fun z => !z.isVia), AlOk (a.put none undef) w' z := by
      intro w' z hz
      obtain ⟨h1, h2⟩ := List.mem_filter.1 hz
      exact (hAl z h1).tmps (by simpa using h2) (fun _ _ => rfl)
    -- the run
    have hexec : ∀ c ty fz, w.heap[b0]? = some (.cells c ty fz) → FzOk c fz → o0 + (idx * dd.es + off) + sv.cells.length ≤ c.size →
        (execOp a.eval ⟨none, .store t (.tmp p) x, ty', pos, aft, gd⟩).run E.P w = .ok .skip (setW w b0 (.cells (setRange c (o0 + (idx * dd.es + off)) (sv.cells.map (V.conc g.φ))) ty fz)) := by
      intro c ty fz hheap hfz hfit
      have hst : (Go.Instr.storeAt t (a.eval (.tmp p)) (a.eval x)).run E.P w = .ok () (setW w b0 (.cells (setRange c (o0 + (idx * dd.es + off)) (sv.cells.map (V.conc g.φ))) ty fz)) := by
        rw [hev, hscv]
        simp only [Go.Instr.storeAt]
        rw [run_bind (show (Go.Instr.sureAddr (.pointer (some ⟨b0, o0 + (idx * dd.es + off), none⟩))).run E.P w = .ok ⟨b0, o0 + (idx * dd.es + off), none⟩ w from rfl)]
        simp only [storeVar]
        rw [run_bind (run_sizeOf hE hu w), hsc.2.1]
        simp only [List.size_toArray, List.length_map, hlen', ne_eq, not_true_eq_false, if_false]
        have := storeCells_run (P := E.P) (sv.cells.map (V.conc g.φ)) w b0 (o0 + (idx * dd.es + off)) 0 c ty fz hheap hfz (by simp; omega) (fun v hv => by
          obtain ⟨c, hc, rfl⟩ := List.mem_map.1 hv
          exact solid_oneCell (hsc.2.2 c hc))
        rw [this]
        simp only [Nat.add_zero]
      simp only [execOp]
      rw [run_bind hst]; rfl
    cases own with
    | slot s =>
      simp only at hown
      have hslt := (List.getElem?_eq_some_iff.1 hown).1
      have h1 := hR.take hown
      have h2 : Rel fr g (.sl xs (some k) dd :: (sv.cells ++ vs.set s (leave (raw g.φ) (.sl xs (some k) dd)))) Hs w := by
        refine h1.weaken ?_ ?_ ?_
        · intro v hv
          simp only [List.mem_cons, List.mem_append] at hv
          rcases hv with rfl | hv | hv
          · exact h1.mem _ (by simp)
          · exact hpM v hv
          · exact h1.mem v (by simp [hv])
        · intro v hv
          simp only [List.mem_cons, List.mem_append] at hv
          rcases hv with rfl | hv | hv
          · exact h1.low _ (by simp)
          · exact hpL v hv
          · exact h1.low v (by simp [hv])
        · intro c; simp only [flL, flL_append, hpfl, List.nil_append]; exact Nat.le_refl _
      obtain ⟨c, ty, fz, hheap, hfz, hfit, h3⟩ := writeSlice h2 hda hyi hk hoff' hnew hpf hsc.2.2 hsub hcnt hnm hnl hym
      have h4 := h3.put s
      rw [List.set_set] at h4
      have hat := hA.set (u := .sl (xs.set idx (elPutV y off sv)) (some k) dd) hown hconc
      refine ⟨undef, g, _, Hs, _, .inr ⟨hexec c ty fz hheap hfz hfit, rfl⟩, h4, ?_, htmpsame _⟩
      rw [hxs]
      simpa only [ownSet, V.er, erL_map, Act.put] using hat
    | via pp =>
      simp only at hown
      obtain ⟨q, ds, hσ, hH, hv, hHs, hds⟩ := hown
      have hqlt := (List.getElem?_eq_some_iff.1 hHs).1
      have hjlt := (List.getElem?_eq_some_iff.1 hds).1
      obtain ⟨hmH, _, _, _⟩ := hR.hmem _ _ hHs
      simp only [Ob.vals] at hmH
      have hslin := List.mem_of_getElem? hds
      have h0 : Rel fr g (.undef { raw := V.conc g.φ (.sl xs (some k) dd) } :: vs) Hs w := hR.cons (by simp only [Mem]; intro b; simp [V.conc]) rfl rfl
      have h1 := heapSwap h0 hHs hds rfl rfl rfl
      have h2 : Rel fr g (.sl xs (some k) dd :: (sv.cells ++ vs)) (Hs.set q.1 (.cells (ds.set q.2 (.undef { raw := V.conc g.φ (.sl xs (some k) dd) })))) w := by
        refine h1.weaken ?_ ?_ ?_
        · intro v hv
          simp only [List.mem_cons, List.mem_append] at hv
          rcases hv with rfl | hv | hv
          · exact h1.mem _ (by simp)
          · exact hpM v hv
          · exact h1.mem v (by simp [hv])
        · intro v hv
          simp only [List.mem_cons, List.mem_append] at hv
          rcases hv with rfl | hv | hv
          · exact h1.low _ (by simp)
          · rw [List.length_set]; exact hpL v hv
          · exact h1.low v (by simp [hv])
        · intro c; simp only [flL, flL_append, hpfl, List.nil_append]; exact Nat.le_refl _
      obtain ⟨c, ty, fz, hheap, hfz, hfit, h3⟩ := writeSlice h2 hda hyi hk hoff' hnew hpf hsc.2.2 hsub hcnt hnm (by rw [List.length_set]; exact hnl) hym
      have hlowq : (V.sl (xs.set idx (elPutV y off sv)) (some k) dd).low q.1 = true := by
        have hl1 := (hmH _ hslin).2
        simp only [V.low, lowL_all, List.all_eq_true] at hl1 ⊢
        intro z hz
        rcases List.mem_or_eq_of_mem_set hz with hz | rfl
        · exact hl1 z hz
        · have hsvl : sv.low q.1 = true := by
            simp only [ownLow, hσ] at hlow
            rw [← er_low]; exact hlow
          have hcl : ∀ c ∈ (elPutV y off sv).cells, c.low q.1 = true := by
            rw [hnew]
            intro c hc
            simp only [putRange, List.mem_append] at hc
            rcases hc with (hc | hc) | hc
            · exact low_cells (hl1 y hyin) (List.mem_of_mem_take hc)
            · exact low_cells hsvl hc
            · exact low_cells (hl1 y hyin) (List.mem_of_mem_drop hc)
          exact low_of_cells hcl
      have h4 := heapSwap (i := q.1) (j := q.2) h3 (by rw [List.getElem?_set_self hqlt]) (by rw [List.getElem?_set_self hjlt]) (by rw [hconc]; rfl) rfl hlowq
      rw [List.set_set, List.set_set] at h4
      refine ⟨undef, g, vs, _, _, .inr ⟨hexec c ty fz hheap hfz hfit, rfl⟩, h4.tail, ?_, htmpsame _⟩
      rw [hxs]
      refine ⟨hA.len, hA.tm, ?_, ?_, hA.df⟩
      · intro t; simp only [ownSet, hσ, hH]; exact hA.σ t
      · simp only [ownSet, hσ, hH]
        rw [List.map_set, hA.H]
        simp only [Ob.er, List.map_set, V.er, erL_map]
end
end Go.Ab
end
