/- Abstract values and rules for them, proved sound over the model. -/
import Derived.Test.YtbdhocfaebchfaaOpLAbAl
set_option linter.all false
set_option linter.unusedSimpArgs false
set_option linter.unusedVariables false
set_option linter.unnecessarySimpa false
section
/- Writes through such slots, proved sound. -/
namespace Go.Ab
open V
variable [Glob]
set_option linter.unusedSimpArgs false
set_option linter.unusedVariables false
set_option linter.unusedSectionVars false

section
variable {E : Env} (hE : E.Ok) {fr : Fr} {g : Ghost} {vs : List (V D)} {Hs : List (Ob D)} {w : World} {st : St} {a : Act} {m : Tmp → Bool}
include hE

omit hE in
theorem tmps_get (hA : At fr E.n g.φ st vs Hs a) (t : Nat) : a.tmps[t]? = (vs[t]?).map (V.conc g.φ) := by
  rw [hA.tm]; simp

theorem ownGet_spec (hR : Rel fr g vs Hs w) (hA : At fr E.n g.φ st vs Hs a) {own : Ow} {xs' : List A} {k : Nat} (h : ownGet st own = some (xs', k)) :
    ∃ (xs : List (V D)) (d : D), xs' = xs.map er ∧ Mem g w (.sl xs (some k) d) ∧ (V.sl xs (some k) d).low Hs.length = true ∧ ownRaw a w own = some (V.conc g.φ (.sl xs (some k) d)) ∧
      (match own with
       | .slot s => vs[s]? = some (.sl xs (some k) d)
       | .via p => ∃ q ds, st.σ p = .ptr (some q) ∧ st.H[q.1]? = some (.cells (ds.map er)) ∧ vs[p]? = some (.ptr (some q)) ∧ Hs[q.1]? = some (.cells ds) ∧ ds[q.2]? = some (.sl xs (some k) d)) := by
  cases own with
  | slot s =>
    simp only [ownGet] at h
    split at h
    · rename_i xs k' hσ
      simp only [Option.some.injEq, Prod.mk.injEq] at h
      obtain ⟨rfl, rfl⟩ := h
      rcases hA.tmp_get s with ⟨v, hv, hs, _⟩ | ⟨_, hs, _⟩
      · rw [hσ] at hs
        obtain ⟨ys, d, rfl, rfl⟩ := er_sl hs.symm
        exact ⟨ys, d, rfl, hR.mem _ (List.mem_of_getElem? hv), hR.low _ (List.mem_of_getElem? hv), by simp only [ownRaw]; rw [tmps_get hA, hv]; rfl, hv⟩
      · rw [hσ] at hs; simp at hs
    · cases h
  | via p =>
    simp only [ownGet] at h
    split at h
    · rename_i q hσ
      split at h
      · rename_i cs hH
        obtain ⟨ds, hHs, rfl⟩ := getH hE hA hH
        split at h
        · rename_i xs k' hc
          simp only [Option.some.injEq, Prod.mk.injEq] at h
          obtain ⟨rfl, rfl⟩ := h
          rw [List.getElem?_map] at hc
          cases hd : ds[q.2]? with
          | none => rw [hd] at hc; simp at hc
          | some v =>
            rw [hd] at hc
            simp only [Option.map_some, Option.some.injEq] at hc
            obtain ⟨ys, d, rfl, rfl⟩ := er_sl hc
            obtain ⟨hm, ⟨hone, ty, rest, fz, hheap, hfz⟩, _, _⟩ := hR.hmem _ _ hHs
            simp only [Ob.vals] at hm
            have hin := List.mem_of_getElem? hd
            have hlt := (List.getElem?_eq_some_iff.1 hHs).1
            rcases hA.tmp_get p with ⟨v, hv, hs, _⟩ | ⟨_, hs, _⟩
            · rw [hσ] at hs
              have := er_ptr hs.symm
              subst this
              refine ⟨ys, d, rfl, (hm _ hin).1, low_mono (hm _ hin).2 (by omega), ?_, q, ds, hσ, hH, hv, hHs, hd⟩
              simp only [ownRaw]
              rw [tmps_get hA, hv]
              simp only [Option.map_some, V.conc]
              rw [heap_cells hheap, Array.getElem?_append_left (by simpa using (List.getElem?_eq_some_iff.1 hd).1)]
              simp [hd, V.conc]
            · rw [hσ] at hs; simp at hs
        · cases h
      · cases h
    · cases h

/-- What an operation on such a slot comes to. -/
def AliasOk (E : Env) (fr : Fr) (a : Act) (w : World) (o : Oper) (al' : List Al) (st' : St) : Prop :=
  ∃ v g' vs' Hs' w', ((execOp a.eval o).run E.P w = .ok (.value v) w' ∨ ((execOp a.eval o).run E.P w = .ok .skip w' ∧ v = undef)) ∧ Rel fr g' vs' Hs' w' ∧ At fr E.n g'.φ st' vs' Hs' (a.put o.dst v) ∧ ∀ x ∈ al', AlOk (a.put o.dst v) w' x

theorem size_tmps (hA : At fr E.n g.φ st vs Hs a) : a.tmps.size = E.n := by rw [hA.tm]; simp [hA.len]

/-- A value that says nothing of itself is put into a slot. -/
theorem put_undef (hR : Rel fr g vs Hs w) (hA : At fr E.n g.φ st vs Hs a) {d : Nat} {v : Value} (hv : ∀ b, v ≠ .bool b) (hd : d < E.n) :
    ∃ vs', Rel fr g vs' Hs w ∧ At fr E.n g.φ (setU st d (.undef ())) vs' Hs (a.put (some d) v) := by
  have h1 : Rel fr g (.undef { raw := v } :: vs) Hs w := hR.cons (by simp only [Mem]; exact hv) rfl rfl
  have h2 : put E (some d) (V.er (.undef { raw := v } : V D)) st = some (setU st d (.undef ())) := by simp only [put, hd, if_true]; rfl
  obtain ⟨vs', k1, k2⟩ := put_sound hE h1 hA h2
  exact ⟨vs', k1, k2⟩

theorem goodD_lt {al : List Al} {d : Nat} (h : goodD E al d = true) : d < E.n ∧ ∀ x ∈ al, (!(x.names).contains d) = true := by
  simp only [goodD, freeD, Bool.and_eq_true, decide_eq_true_eq, List.all_eq_true] at h
  exact h

theorem move_alias (hR : Rel fr g vs Hs w) (hA : At fr E.n g.φ st vs Hs a) {al : List Al} (hAl : ∀ x ∈ al, AlOk a w x) {s d : Nat} {ty : TypeId} {pos : String} {aft : Array Edge} {gd : Option (Nat × Bool)} {r : List A × Nat}
    (hg : goodD E al d = true) (hsd : s ≠ d) (ho : ownGet st (.slot s) = some r) : AliasOk E fr a w ⟨some d, .move (.tmp s), ty, pos, aft, gd⟩ (.hdr d (.slot s) :: al) (setU st d (.undef ())) := by
  obtain ⟨xs', k⟩ := r
  obtain ⟨xs, dd, rfl, hm, hl, hraw, hv⟩ := ownGet_spec hE hR hA ho
  obtain ⟨hd, hfree⟩ := goodD_lt hE hg
  simp only [ownRaw] at hraw
  obtain ⟨vs', k1, k2⟩ := put_undef hE hR hA (d := d) (v := V.conc g.φ (.sl xs (some k) dd)) (by intro b; simp [V.conc]) hd
  have hev : a.eval (.tmp s) = V.conc g.φ (.sl xs (some k) dd) := by
    rw [hA.conc_eq]; simp only [sev, List.getD_eq_getElem?_getD]; rw [hv]; rfl
  refine ⟨_, g, vs', Hs, w, .inl (by rw [← hev]; rfl), k1, k2, ?_⟩
  intro x hx
  rcases List.mem_cons.1 hx with rfl | hx
  · simp only [AlOk]
    rw [put_same (by rw [size_tmps hE hA]; exact hd), ownRaw_put (by simpa [Ow.name] using hsd)]
    simp only [ownRaw]; rw [hraw]
  · exact (hAl x hx).put (hfree x hx)

theorem load_alias (hR : Rel fr g vs Hs w) (hA : At fr E.n g.φ st vs Hs a) {al : List Al} (hAl : ∀ x ∈ al, AlOk a w x) {t : TypeId} {e : TypeId} {p d : Nat} {ty : TypeId} {pos : String} {aft : Array Edge} {gd : Option (Nat × Bool)} {r : List A × Nat}
    (hg : goodD E al d = true) (hpd : p ≠ d) (hT : dOf E.T t = .sl e) (ho : ownGet st (.via p) = some r) : AliasOk E fr a w ⟨some d, .load t (.tmp p), ty, pos, aft, gd⟩ (.hdr d (.via p) :: al) (setU st d (.undef ())) := by
  obtain ⟨xs', k⟩ := r
  obtain ⟨xs, dd, rfl, hm, hl, hraw, q, ds, hσ, hH, hv, hHs, hds⟩ := ownGet_spec hE hR hA ho
  obtain ⟨hd, hfree⟩ := goodD_lt hE hg
  obtain ⟨vs', k1, k2⟩ := put_undef hE hR hA (d := d) (v := V.conc g.φ (.sl xs (some k) dd)) (by intro b; simp [V.conc]) hd
  have hev : a.eval (.tmp p) = .pointer (some ⟨g.φ q.1, q.2, none⟩) := by
    rw [hA.conc_eq]; simp only [sev, List.getD_eq_getElem?_getD]; rw [hv]; rfl
  obtain ⟨u, hu, hud⟩ := dOf_int hT (by simp)
  obtain ⟨hm', ⟨hone, tyo, rest, fz, hheap, hfz⟩, _, _⟩ := hR.hmem _ _ hHs
  have hrun : (Go.Instr.loadAt t (a.eval (.tmp p))).run E.P w = .ok (V.conc g.φ (.sl xs (some k) dd)) w := by
    rw [hev]
    simp only [Go.Instr.loadAt]
    rw [run_bind (show (Go.Instr.sureAddr (.pointer (some ⟨g.φ q.1, q.2, none⟩))).run E.P w = .ok ⟨g.φ q.1, q.2, none⟩ w from rfl)]
    refine loadVar_run hE hu (cs := ds.drop q.2) ?_ (.inr ⟨by rw [hud]; rfl, by rw [List.getElem?_drop]; simpa using hds⟩)
    intro j c hj
    rw [List.getElem?_drop] at hj
    rw [heap_cells hheap, Array.getElem?_append_left (by simpa using (List.getElem?_eq_some_iff.1 hj).1)]
    simp [hj]
  refine ⟨_, g, vs', Hs, w, .inl ?_, k1, k2, ?_⟩
  · show (do pure (Next.value (← Go.Instr.loadAt t (a.eval (.tmp p))))).run E.P w = _
    exact value_run' hrun
  · intro x hx
    rcases List.mem_cons.1 hx with rfl | hx
    · simp only [AlOk]
      rw [put_same (by rw [size_tmps hE hA]; exact hd), ownRaw_put (by simpa [Ow.name] using hpd), hraw]
    · exact (hAl x hx).put (hfree x hx)

theorem len_alias (hR : Rel fr g vs Hs w) (hA : At fr E.n g.φ st vs Hs a) {al : List Al} (hAl : ∀ x ∈ al, AlOk a w x) {t d : Nat} {own : Ow} {ty e ty' : TypeId} {pos : String} {aft : Array Edge} {gd : Option (Nat × Bool)} {xs' : List A} {k : Nat}
    (hh : hdrOf al t = some own) (hg : goodD E al d = true) (hT : dOf E.T ty = .sl e) (ho : ownGet st own = some (xs', k)) :
    AliasOk E fr a w ⟨some d, .call { callee := .builtin .len, args := #[.tmp t], argTypes := #[ty] }, ty', pos, aft, gd⟩ al (setU st d (.int .i64 xs'.length)) := by
  obtain ⟨xs, dd, rfl, hm, hl, hraw, _⟩ := ownGet_spec hE hR hA ho
  obtain ⟨hd, hfree⟩ := goodD_lt hE hg
  have hal := hAl _ (hdrOf_mem hh)
  simp only [AlOk] at hal
  rw [hraw] at hal
  let s' : Operand → V D := fun _ => .sl xs (some k) dd
  have hpure : pureA E (.call { callee := .builtin .len, args := #[.tmp t], argTypes := #[ty] }) (fun x => (s' x).er) = some (.int .i64 (xs.map er).length) := by
    simp only [pureA, lenA, s', hT, V.er, erL_map]
  obtain ⟨sr, hgood, hrun⟩ := pure_sound (g := g) (w := w) (N := Hs.length) (s := s') hE (fun _ => ⟨hm, hl⟩) hpure
  have hr := hrun (some d) ty' pos aft gd
  have hsr := er_int hgood.er
  have hev : a.eval (.tmp t) = V.conc g.φ (.sl xs (some k) dd) := by
    show a.tmps.getD t undef = _
    rw [Array.getD_eq_getD_getElem?, hal]; rfl
  have hexec : execOp a.eval ⟨some d, .call { callee := .builtin .len, args := #[.tmp t], argTypes := #[ty] }, ty', pos, aft, gd⟩ = execOp (fun x => V.conc g.φ (s' x)) ⟨some d, .call { callee := .builtin .len, args := #[.tmp t], argTypes := #[ty] }, ty', pos, aft, gd⟩ := by
    simp only [execOp, resolve, List.map_toArray, List.map_cons, List.map_nil, hev, s']
  have hput : put E (some d) sr.er st = some (setU st d (.int .i64 (xs.map er).length)) := by rw [hgood.er]; simp only [put, hd, if_true]; rfl
  obtain ⟨vs', k1, k2⟩ := put_sound hE (hR.cons hgood.mem hgood.low (fl_nil hgood.fl)) hA hput
  exact ⟨_, g, vs', Hs, w, .inl (by rw [hexec]; exact hr), k1, k2, fun x hx => (hAl x hx).put (hfree x hx)⟩

theorem index_alias (hR : Rel fr g vs Hs w) (hA : At fr E.n g.φ st vs Hs a) {al : List Al} (hAl : ∀ x ∈ al, AlOk a w x) {t d : Nat} {own : Ow} {ty e ty' : TypeId} {i : Operand} {pos : String} {aft : Array Edge} {gd : Option (Nat × Bool)} {xs' : List A} {k : Nat} {ik : IntKind} {n : Int} {u : Ty}
    (hh : hdrOf al t = some own) (ho : ownGet st own = some (xs', k)) (hT : dOf E.T ty = .sl e) (hi : ev st i = .int ik n) (hu : E.T e = some u) (hg : goodD E al d = true) (hnd : own.name ≠ d) (hU : Uni u.size xs' = true) (hn : 0 ≤ n ∧ n < xs'.length) :
    AliasOk E fr a w ⟨some d, .indexAddr ty (.tmp t) i, ty', pos, aft, gd⟩ (.el d own u.size n.toNat 0 :: al) (setU st d (.undef ())) := by
  obtain ⟨xs, dd, rfl, hm, hl, hraw, _⟩ := ownGet_spec hE hR hA ho
  obtain ⟨hd, hfree⟩ := goodD_lt hE hg
  have hal := hAl _ (hdrOf_mem hh)
  simp only [AlOk] at hal
  rw [hraw] at hal
  simp only [List.length_map] at hn
  simp only [Mem, MemL_all] at hm
  obtain ⟨hm1, hUx, hes, hcap, hs⟩ := hm
  cases hda : dd.a with
  | none => rw [hda] at hs; simp only at hs; rw [hs.1] at hn; simp at hn; omega
  | some p =>
    obtain ⟨b, o⟩ := p
    have hev : a.eval (.tmp t) = .slice (some ⟨b, o, none⟩) xs.length dd.cap := by
      show a.tmps.getD t undef = _
      rw [Array.getD_eq_getD_getElem?, hal]; simp only [Option.getD_some, V.conc, slA, hda]
    have hevi : a.eval i = .int ik n := by
      rw [hA.conc_eq]
      rw [hA.ev_eq] at hi
      rw [er_int hi]; rfl
    have hrun : (Go.Instr.indexAt ty (a.eval (.tmp t)) (a.eval i)).run E.P w = .ok (.pointer (some ⟨b, o + n.toNat * u.size, none⟩)) w := by
      rw [hev, hevi]
      simp only [Go.Instr.indexAt]
      rw [run_bind asIntOf_run]
      simp only []
      rw [run_bind (run_underlying (und_sl hE hT) w), run_bind (pure_run _ _)]
      simp only []
      rw [run_bind (run_underlying (und_sl hE hT) w)]
      simp only []
      rw [if_pos hn, run_bind (run_sizeOf hE hu w), add_none]
      rfl
    obtain ⟨vs', k1, k2⟩ := put_undef hE hR hA (d := d) (v := .pointer (some ⟨b, o + n.toNat * u.size, none⟩)) (by intro b; simp) hd
    refine ⟨_, g, vs', Hs, w, .inl ?_, k1, k2, ?_⟩
    · show (do pure (Next.value (← Go.Instr.indexAt ty (a.eval (.tmp t)) (a.eval i)))).run E.P w = _
      exact value_run' hrun
    · intro x hx
      rcases List.mem_cons.1 hx with rfl | hx
      · refine ⟨b, o, xs.length, dd.cap, ?_, ?_⟩
        · rw [ownRaw_put hnd, hraw]; simp only [V.conc, slA, hda]
        · rw [put_same (by rw [size_tmps hE hA]; exact hd), Nat.add_zero]
      · exact (hAl x hx).put (hfree x hx)

theorem field_alias (hR : Rel fr g vs Hs w) (hA : At fr E.n g.φ st vs Hs a) {al : List Al} (hAl : ∀ x ∈ al, AlOk a w x) {t d f es idx off o' : Nat} {own : Ow} {ty ty' : TypeId} {pos : String} {aft : Array Edge} {gd : Option (Nat × Bool)} {u : Ty}
    (hh : elOf al t = some (own, es, idx, off)) (hf : fieldOf E.T ty f = some (o', u)) (hg : goodD E al d = true) (hnd : own.name ≠ d) :
    AliasOk E fr a w ⟨some d, .fieldAddr ty (.tmp t) f, ty', pos, aft, gd⟩ (.el d own es idx (off + o') :: al) (setU st d (.undef ())) := by
  obtain ⟨hd, hfree⟩ := goodD_lt hE hg
  obtain ⟨b, o, len, cap, hraw, htmp⟩ := hAl _ (elOf_mem hh)
  obtain ⟨fs, fd, hu, hfd, rfl, hT, hz⟩ := fieldOf_run hE hf
  have hev : a.eval (.tmp t) = .pointer (some ⟨b, o + (idx * es + off), none⟩) := by
    show a.tmps.getD t undef = _
    rw [Array.getD_eq_getD_getElem?, htmp]; rfl
  have hrun : (Go.Instr.fieldAt ty (a.eval (.tmp t)) f).run E.P w = .ok (.pointer (some ⟨b, o + (idx * es + off) + fd.offset, none⟩)) w := by
    rw [hev]
    simp only [Go.Instr.fieldAt]
    rw [run_bind (run_underlying hu w)]
    simp only [hfd]
    rw [run_bind (show (Go.Instr.sureAddr (.pointer (some ⟨b, o + (idx * es + off), none⟩))).run E.P w = .ok ⟨b, o + (idx * es + off), none⟩ w from rfl)]
    rw [run_bind (show (fieldPlace ⟨b, o + (idx * es + off), none⟩ fd).run E.P w = .ok ⟨b, o + (idx * es + off) + fd.offset, none⟩ w by
      unfold fieldPlace
      rw [run_bind (run_sizeOf hE hT w), if_neg hz, add_none]; rfl)]
    rfl
  obtain ⟨vs', k1, k2⟩ := put_undef hE hR hA (d := d) (v := .pointer (some ⟨b, o + (idx * es + off) + fd.offset, none⟩)) (by intro b; simp) hd
  refine ⟨_, g, vs', Hs, w, .inl ?_, k1, k2, ?_⟩
  · show (do pure (Next.value (← Go.Instr.fieldAt ty (a.eval (.tmp t)) f))).run E.P w = _
    exact value_run' hrun
  · intro x hx
    rcases List.mem_cons.1 hx with rfl | hx
    · refine ⟨b, o, len, cap, by rw [ownRaw_put hnd]; exact hraw, ?_⟩
      rw [put_same (by rw [size_tmps hE hA]; exact hd)]
      congr 3
      simp only [Addr.mk.injEq, and_true, true_and]
      omega
    · exact (hAl x hx).put (hfree x hx)
end
end Go.Ab
end
