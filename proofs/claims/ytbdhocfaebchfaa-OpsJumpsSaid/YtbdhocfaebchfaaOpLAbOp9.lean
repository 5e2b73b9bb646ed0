/- Abstract values and rules for them, proved sound over the model. -/
import Derived.Test.YtbdhocfaebchfaaOpLAbCp
set_option linter.all false
set_option linter.unusedSimpArgs false
set_option linter.unusedVariables false
set_option linter.unnecessarySimpa false
section
/- All operations that are no calls of functions. -/
namespace Go.Ab
open V
variable [Glob]
set_option linter.unusedSimpArgs false
set_option linter.unusedVariables false
set_option linter.unusedSectionVars false

section
variable {E : Env} {g : Ghost} {w : World} {fr : Fr} {vs pre : List (V D)} {Hs : List (Ob D)} {st : St} {a : Act} (hE : E.Ok)
include hE

theorem extract_sound (hR : Rel fr g vs Hs w) (hA : At fr E.n g.φ st vs Hs a) {x : Operand} {i : Nat} {r : A} {st1 : St}
    (h : extractA x i st = some (r, st1)) : OpOk E fr [] a w r st1 (Go.Instr.extract (a.eval x) i) := by
  unfold extractA at h
  split at h
  · rename_i t
    split at h
    · rename_i vs' hσ
      split at h
      · rename_i v hv
        rcases hA.tmp_get t with ⟨u, hu, hσu, hs⟩ | ⟨hu, hσu, hs⟩
        · rw [hσ] at hσu
          obtain ⟨ys, rfl, rfl⟩ := er_tup hσu.symm
          rw [List.getElem?_map] at hv
          obtain ⟨y, hy, rfl⟩ := Option.map_eq_some_iff.1 hv
          have hum := List.mem_of_getElem? hu
          have hm := hR.mem _ hum
          have hl := hR.low _ hum
          simp only [Mem, MemL_all, V.low, lowL_all, List.all_eq_true] at hm hl
          have hym := List.mem_of_getElem? hy
          have hrun : (Go.Instr.extract (a.eval (.tmp t)) i).run E.P w = .ok (V.conc g.φ y) w := by
            rw [hA.conc_eq, hs]
            simp only [V.conc, concL_map, Go.Instr.extract]
            simp [hy, Sem.run, Pure.pure]
          split at h
          · rename_i hf
            simp only [Option.some.injEq, Prod.mk.injEq] at h
            obtain ⟨rfl, rfl⟩ := h
            exact ⟨g, y, vs, Hs, w, hR.cons (hm y hym) (hl y hym) (fl_nil (by rw [← er_flagless]; exact hf)), hA, rfl, hrun⟩
          · simp only [Option.some.injEq, Prod.mk.injEq] at h
            obtain ⟨rfl, rfl⟩ := h
            have hcnt : ∀ b, (fl (.tup (ys.set i (leave (raw g.φ) y)))).count b + y.fl.count b = (fl (.tup ys)).count b := by
              intro b
              have := count_set b (leave (raw g.φ) y) y ys i hy
              rw [fl_nil (leave_flagless _ _)] at this
              simp only [fl, List.count_nil] at this ⊢; omega
            refine ⟨g, y, vs.set t (.tup (ys.set i (leave (raw g.φ) y))), Hs, w, ?_, ?_, rfl, hrun⟩
            · refine hR.weaken ?_ ?_ ?_
              · intro v hv
                simp only [List.nil_append, List.mem_cons] at hv
                rcases hv with rfl | hv
                · exact hm _ hym
                · rcases List.mem_or_eq_of_mem_set hv with hv | rfl
                  · exact hR.mem v hv
                  · simp only [Mem, MemL_all]
                    intro z hz
                    rcases List.mem_or_eq_of_mem_set hz with hz | rfl
                    · exact hm z hz
                    · exact Mem_leave _ (hm y hym)
              · intro v hv
                simp only [List.nil_append, List.mem_cons] at hv
                rcases hv with rfl | hv
                · exact hl _ hym
                · rcases List.mem_or_eq_of_mem_set hv with hv | rfl
                  · exact hR.low v hv
                  · simp only [V.low, lowL_all, List.all_eq_true]
                    intro z hz
                    rcases List.mem_or_eq_of_mem_set hz with hz | rfl
                    · exact hl z hz
                    · exact low_leave _ (hl y hym)
              · intro b
                have h1 := count_set b (.tup (ys.set i (leave (raw g.φ) y))) (.tup ys) vs t hu
                have h2 := hcnt b
                simp only [List.nil_append, flL, List.count_append]; omega
            · have := hA.set hu (u := .tup (ys.set i (leave (raw g.φ) y))) (by
                simp only [V.conc, concL_map, List.map_set]
                congr 1
                congr 1
                rw [conc_leave]
                apply List.ext_getElem?
                intro j
                rw [List.getElem?_set]
                split
                · rename_i hj; subst hj
                  simp only [List.length_map, List.getElem?_map, hy, Option.map_some]
                  rw [if_pos (List.getElem?_eq_some_iff.1 hy).1]
                · rfl)
              simp only [V.er, erL_map, List.map_set, er_leave] at this
              exact this
        · rw [hσ] at hσu; simp at hσu
      · simp at h
    · simp at h
  · simp at h

/-- What is to be shown of an operation. -/
def StepOk (E : Env) (fr : Fr) (a : Act) (w : World) (o : Oper) (r : A) (st1 : St) : Prop :=
  ∃ g sr vs Hs w', Rel fr g (sr :: vs) Hs w' ∧ At fr E.n g.φ st1 vs Hs a ∧ sr.er = r ∧
    ((execOp a.eval o).run E.P w = .ok (.value (V.conc g.φ sr)) w' ∨ ((execOp a.eval o).run E.P w = .ok .skip w' ∧ V.conc g.φ sr = undef))

omit hE in
theorem StepOk.of {o : Oper} {r : A} {st1 : St} {e : Sem Value} (h : OpOk E fr [] a w r st1 e) (hx : execOp a.eval o = (do pure (Next.value (← e)))) : StepOk E fr a w o r st1 := by
  obtain ⟨g, sr, vs, Hs, w', h1, h2, h3, h4⟩ := h
  exact ⟨g, sr, vs, Hs, w', h1, h2, h3, .inl (by rw [hx]; exact value_run' h4)⟩

theorem op_sound (hR : Rel fr g vs Hs w) (hA : At fr E.n g.φ st vs Hs a) {o : Oper} {r : A} {st1 : St} (h : opA E o.dst o.op st = some (r, st1)) : StepOk E fr a w o r st1 := by
  obtain ⟨dst, op, ty, pos, aft, gd⟩ := o
  simp only at h
  unfold opA at h
  split at h
  · rename_i x
    simp only [Option.some.injEq] at h
    split at h
    · obtain ⟨sv, vs1, k1, k2, k3, k4⟩ := use_sound (pre := []) hR hA x
      rw [h] at k2 k3
      exact ⟨g, sv, vs1, Hs, w, k1, k2, k3, .inl (by rw [k4]; rfl)⟩
    · obtain ⟨F, sv, vs1, k1, k2, k3, k4⟩ := copy_sound (pre := []) hR hA x
      rw [h] at k2 k3
      exact ⟨⟨g.φ, F⟩, sv, vs1, Hs, w, k1, k2, k3, .inl (by rw [k4]; rfl)⟩
  · rename_i x
    simp only [Option.some.injEq] at h
    obtain ⟨sv, vs1, k1, k2, k3, k4⟩ := use_sound (pre := []) hR hA x
    rw [h] at k2 k3
    exact ⟨g, sv, vs1, Hs, w, k1, k2, k3, .inl (by rw [k4]; rfl)⟩
  · exact .of (load_sound (pre := []) hE hR hA h).op rfl
  · obtain ⟨st', hs, he⟩ := Option.map_eq_some_iff.1 h
    simp only [Prod.mk.injEq] at he
    obtain ⟨rfl, rfl⟩ := he
    obtain ⟨g', vs1, Hs1, w', k1, k2, k3⟩ := store_sound hE hR hA hs
    refine ⟨g', ud, vs1, Hs1, w', k1.cons (by simp [ud, Mem]) rfl rfl, k2, rfl, .inr ⟨?_, rfl⟩⟩
    simp only [execOp]
    rw [run_bind k3]; rfl
  · exact .of (alloc_sound hE hR hA h) rfl
  · exact .of (box_sound hE hR hA h) rfl
  · rename_i t ps
    refine .of (build_sound hE hR hA h) ?_
    simp only [execOp]
    rw [show (ps.map fun (p : Nat × Operand) => match p with | (i, x) => (i, a.eval x)) = (ps.toList.map fun p => (p.1, a.eval p.2)).toArray by apply Array.ext'; simp]
  · rename_i t n ps
    refine .of (buildSlice_sound hE hR hA h) ?_
    simp only [execOp]
    rw [show (ps.map fun (p : Nat × Operand) => match p with | (i, x) => (i, a.eval x)) = (ps.toList.map fun p => (p.1, a.eval p.2)).toArray by apply Array.ext'; simp]
  · exact .of (makeSlice_sound hE hR hA h) rfl
  · exact .of (extract_sound hE hR hA h) rfl
  · rename_i args ts
    split at h
    · rename_i s x t tx ha ht
      obtain rfl : args = #[s, x] := by apply Array.ext'; simpa using ha
      obtain rfl : ts = #[t, tx] := by apply Array.ext'; simpa using ht
      refine .of (append_sound hE hR hA ty h) ?_
      simp only [execOp, resolve, List.map_toArray, List.map_cons, List.map_nil]
      rfl
    · simp at h
  · rename_i s d x
    split at h
    · rename_i v hv
      simp only [Option.some.injEq, Prod.mk.injEq] at h
      obtain ⟨rfl, rfl⟩ := h
      exact .of (toBytes_sound hE hR hA hv) rfl
    · split at h
      · rename_i v hv
        simp only [Option.some.injEq, Prod.mk.injEq] at h
        obtain ⟨rfl, rfl⟩ := h
        exact .of (winStr_sound hE hR hA hv) rfl
      · obtain ⟨v, hv, he⟩ := Option.map_eq_some_iff.1 h
        simp only [Prod.mk.injEq] at he
        obtain ⟨rfl, rfl⟩ := he
        rw [hA.ev_fun] at hv
        obtain ⟨sr, hg, hrun⟩ := pure_sound (N := Hs.length) (s := sev vs a) hE (fun x => hA.mem_sev hR x) hv
        have := hrun dst ty pos aft gd
        rw [← hA.eval_fun] at this
        exact ⟨g, sr, vs, Hs, w, hR.cons hg.mem hg.low (fl_nil hg.fl), hA, hg.er, .inl this⟩
  · rename_i args ts
    split at h
    · rename_i x y t ty' ha ht
      obtain rfl : args = #[x, y] := by apply Array.ext'; simpa using ha
      obtain rfl : ts = #[t, ty'] := by apply Array.ext'; simpa using ht
      refine .of (copyOp_sound (ty' := ty') hE hR hA ty h) ?_
      simp only [execOp, resolve, List.map_toArray, List.map_cons, List.map_nil]
      rfl
    · simp at h
  · obtain ⟨v, hv, he⟩ := Option.map_eq_some_iff.1 h
    simp only [Prod.mk.injEq] at he
    obtain ⟨rfl, rfl⟩ := he
    rw [hA.ev_fun] at hv
    obtain ⟨sr, hg, hrun⟩ := pure_sound (N := Hs.length) (s := sev vs a) hE (fun x => hA.mem_sev hR x) hv
    have := hrun dst ty pos aft gd
    rw [← hA.eval_fun] at this
    exact ⟨g, sr, vs, Hs, w, hR.cons hg.mem hg.low (fl_nil hg.fl), hA, hg.er, .inl this⟩

/-- The slots behind an operation. -/
theorem put_sound {sr : V D} (hR : Rel fr g (sr :: vs) Hs w) (hA : At fr E.n g.φ st vs Hs a) {dst : Option Tmp} {st1 : St} (h : put E dst sr.er st = some st1) :
    ∃ vs1, Rel fr g vs1 Hs w ∧ At fr E.n g.φ st1 vs1 Hs (a.put dst (V.conc g.φ sr)) := by
  unfold put at h
  split at h
  · simp only [Option.some.injEq] at h; subst h
    exact ⟨vs, hR.tail, hA⟩
  · rename_i d
    split at h
    · rename_i hd
      simp only [Option.some.injEq] at h; subst h
      refine ⟨vs.set d sr, hR.put d, by simpa using hA.len, ?_, ?_, hA.H, hA.df⟩
      · simp only [Act.put, hA.tm]
        apply Array.ext'
        simp [List.map_set]
      · intro i
        simp only [upd]
        rw [List.getD_eq_getElem?_getD, List.getElem?_set]
        by_cases hi : i = d
        · subst hi; rw [if_pos rfl, if_pos rfl, if_pos (by rw [hA.len]; exact hd)]; rfl
        · rw [if_neg hi, if_neg (fun h => hi h.symm), hA.σ i, List.getD_eq_getElem?_getD]
    · simp at h

theorem frz_sound {sr : V D} (hR : Rel fr g (sr :: vs) Hs w) {dst : Option Tmp} : ∃ F sr', Rel fr ⟨g.φ, F⟩ (sr' :: vs) Hs w ∧ sr'.er = frzA E dst sr.er ∧ V.conc g.φ sr' = V.conc g.φ sr := by
  unfold frzA
  split
  · rename_i d
    split
    · obtain ⟨F, h⟩ := hR.copy (t := 0) (v := sr) rfl
      refine ⟨F, sr.strip, ?_, er_strip sr, conc_strip _ _⟩
      simp only [List.set_cons_zero] at h
      exact h.weaken (fun v hv => h.mem v (by simp only [List.mem_cons] at hv ⊢; rcases hv with rfl | hv <;> simp [*])) (fun v hv => h.low v (by simp only [List.mem_cons] at hv ⊢; rcases hv with rfl | hv <;> simp [*]))
        (fun b => by simp only [flL, List.count_append]; omega)
    · exact ⟨g.F, sr, hR, rfl, rfl⟩
  · exact ⟨g.F, sr, hR, rfl, rfl⟩
end
end Go.Ab
end
