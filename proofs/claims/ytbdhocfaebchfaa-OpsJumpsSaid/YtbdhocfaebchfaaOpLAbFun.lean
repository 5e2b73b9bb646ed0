/- Abstract values and rules for them, proved sound over the model. -/
import Derived.Test.YtbdhocfaebchfaaOpLAbCtl
set_option linter.all false
set_option linter.unusedSimpArgs false
set_option linter.unusedVariables false
set_option linter.unnecessarySimpa false
section
/- A function's contract from its body. -/
namespace Go.Ab
open V
variable [Glob]
set_option linter.unusedSimpArgs false
set_option linter.unusedVariables false
set_option linter.unusedSectionVars false

/-- The results as they are handed back. -/
def resL (E : Env) : List ResultVar → St → Option (List A × St)
  | [], st => some ([], st)
  | .tmp t :: rs, st => match use (.tmp t) st with
    | (v, st1) => match resL E rs st1 with
      | some (vs, st2) => some (v :: vs, st2)
      | none => none
  | .cell x t :: rs, st => match loadA E .take t (.tmp x) st with
    | some (v, st1) => (match resL E rs st1 with
      | some (vs, st2) => some (v :: vs, st2)
      | none => none)
    | none => none

def tup1 {δ : Type} : List (V δ) → V δ
  | [v] => v
  | vs => .tup vs

/-- At a function's end: N objects were there when it began; what it made is kept, or forgotten if nothing of it is handed back. -/
def retQ (E : Env) (fn : Func) (N : Nat) (Q : A → Heap → Prop) (x : X) (st : St) : Prop :=
  match x with
  | .normal | .ret => (match resL E fn.results.toList st with
    | some (vs, st1) => Q (tup1 vs) st1.H ∨ ((tup1 vs).low N = true ∧ Q (tup1 vs) (st1.H.take N))
    | none => False)
  | _ => False

def st0 (args : List A) (H : Heap) : St := ⟨fun t => args.getD t (.undef ()), H⟩

section
variable {E : Env} (hE : E.Ok)
include hE

theorem resL_sound {fr : Fr} : ∀ (rs : List ResultVar) (pre vs : List (V D)) (st : St) (g : Ghost) (Hs : List (Ob D)) (w : World) (a : Act) (r : List A) (st1 : St),
    Rel fr g (pre ++ vs) Hs w → At fr E.n g.φ st vs Hs a → resL E rs st = some (r, st1) →
    ∃ g1 svs vs1 Hs1, Rel fr g1 (svs ++ (pre ++ vs1)) Hs1 w ∧ At fr E.n g1.φ st1 vs1 Hs1 a ∧ svs.map V.er = r ∧ g1.φ = g.φ ∧
      (rs.mapM fun x => (match x with | .tmp t => pure (a.tmps.getD t undef) | .cell b t => do loadVar t (← asAddr (a.tmps.getD b undef)) : Sem Value)).run E.P w = .ok (svs.map (V.conc g1.φ)) w := by
  intro rs
  induction rs with
  | nil =>
    intro pre vs st g Hs w a r st1 hR hA h
    simp only [resL, Option.some.injEq, Prod.mk.injEq] at h
    obtain ⟨rfl, rfl⟩ := h
    exact ⟨g, [], vs, Hs, hR, hA, rfl, rfl, rfl⟩
  | cons x rs ih =>
    intro pre vs st g Hs w a r st1 hR hA h
    have hperm : ∀ {g : Ghost} {Hs : List (Ob D)} {svs vs2 : List (V D)} {sv : V D}, Rel fr g (svs ++ ((sv :: pre) ++ vs2)) Hs w → Rel fr g ((sv :: svs) ++ (pre ++ vs2)) Hs w := by
      intro g Hs svs vs2 sv l1
      refine l1.weaken ?_ ?_ (fun b => by simp only [flL_append, flL, List.count_append, List.cons_append]; omega)
      · intro v hv; exact l1.mem v (by simp only [List.cons_append, List.mem_cons, List.mem_append] at hv ⊢; rcases hv with hv | hv | hv | hv <;> simp [hv])
      · intro v hv; exact l1.low v (by simp only [List.cons_append, List.mem_cons, List.mem_append] at hv ⊢; rcases hv with hv | hv | hv | hv <;> simp [hv])
    cases x with
    | tmp t =>
      simp only [resL] at h
      split at h
      · rename_i vs' st2 hrs
        simp only [Option.some.injEq, Prod.mk.injEq] at h
        obtain ⟨rfl, rfl⟩ := h
        obtain ⟨sv, vs1, k1, k2, k3, k4⟩ := use_sound hR hA (.tmp t)
        obtain ⟨g1, svs, vs2, Hs1, l1, l2, l3, l5, l4⟩ := ih (sv :: pre) vs1 _ g Hs w a vs' st2 k1 k2 hrs
        refine ⟨g1, sv :: svs, vs2, Hs1, hperm l1, l2, by simp [k3, l3], l5, ?_⟩
        rw [List.mapM_cons, run_bind (show (pure (a.tmps.getD t undef) : Sem Value).run E.P w = .ok (V.conc g1.φ sv) w by rw [l5, k4]; rfl), run_bind l4]
        rfl
      · simp at h
    | cell b t =>
      simp only [resL] at h
      split at h
      · rename_i v st2 hl
        split at h
        · rename_i vs' st3 hrs
          simp only [Option.some.injEq, Prod.mk.injEq] at h
          obtain ⟨rfl, rfl⟩ := h
          -- the world of a load is as it was
          obtain ⟨g2, sv, vs1, Hs1, w', k1, k2, k3, k4, k5, k6⟩ := load_sound' hE hR hA hl
          subst k5
          obtain ⟨g1, svs, vs2, Hs2, l1, l2, l3, l5, l4⟩ := ih (sv :: pre) vs1 st2 g2 Hs1 _ a vs' st3 k1 k2 hrs
          refine ⟨g1, sv :: svs, vs2, Hs2, ?_, l2, by simp [k3, l3], l5.trans k6, ?_⟩
          · exact hperm l1
          · rw [List.mapM_cons, run_bind (show (do loadVar t (← asAddr (a.tmps.getD b undef)) : Sem Value).run E.P _ = .ok (V.conc g1.φ sv) _ by
              rw [l5]; exact k4), run_bind l4]
            rfl
        · simp at h
      · simp at h
where
  load_sound' {E : Env} (hE : E.Ok) {fr : Fr} {g : Ghost} {pre vs : List (V D)} {Hs : List (Ob D)} {w : World} {st : St} {a : Act} {m : Mode} {t : TypeId} {b : Tmp} {r : A} {st1 : St}
      (hR : Rel fr g (pre ++ vs) Hs w) (hA : At fr E.n g.φ st vs Hs a) (h : loadA E m t (.tmp b) st = some (r, st1)) :
      ∃ g2 sr vs1 Hs1 w', Rel fr g2 (sr :: (pre ++ vs1)) Hs1 w' ∧ At fr E.n g2.φ st1 vs1 Hs1 a ∧ sr.er = r ∧ (do loadVar t (← asAddr (a.tmps.getD b undef)) : Sem Value).run E.P w = .ok (V.conc g2.φ sr) w' ∧ w' = w ∧ g2.φ = g.φ := by
    obtain ⟨F, sr, vs1, Hs1, h1, h2, h3, h4⟩ := load_sound hE hR hA h
    refine ⟨⟨g.φ, F⟩, sr, vs1, Hs1, w, h1, h2, h3, ?_, rfl, rfl⟩
    have e : a.eval (.tmp b) = a.tmps.getD b undef := rfl
    rw [e] at h4
    revert h4
    generalize a.tmps.getD b undef = v
    intro h4
    cases v with
    | pointer q => cases q with
      | some q => exact h4
      | none => simp [Go.Instr.loadAt, Go.Instr.sureAddr, stuck, Sem.run, Bind.bind, Sem.bind] at h4
    | _ => simp [Go.Instr.loadAt, Go.Instr.sureAddr, stuck, Sem.run, Bind.bind, Sem.bind] at h4

end

theorem run_ok_pure {α : Type} {P : Program} {x : α} {w : World} : (pure x : Sem α).run P w = .ok x w := rfl

/-- The objects from N on are forgotten. -/
theorem Rel.take_H {fr : Fr} {g : Ghost} {vs : List (V D)} {Hs : List (Ob D)} {w : World} {N : Nat} (h : Rel fr g vs Hs w) (hN : fr.N0 ≤ N) (hl : ∀ v ∈ vs, v.low N = true) : Rel fr g vs (Hs.take N) w := by
  by_cases hlen : Hs.length ≤ N
  · rw [List.take_of_length_le hlen]; exact h
  · have hlen' : (Hs.take N).length = N := by simp; omega
    have hsub : ∀ b, (flH (Hs.take N)).count b ≤ (flH Hs).count b := by
      intro b
      have : flH Hs = flH (Hs.take N) ++ flH (Hs.drop N) := by
        simp only [flH]; rw [← flL_append, ← List.flatMap_append, List.take_append_drop]
      rw [this, List.count_append]; omega
    refine { h with low := ?_, hmem := ?_, inj := ?_, uniq := ?_, own := ?_, frφ := ?_ }
    · rw [hlen']; exact hl
    · intro i o hio
      rw [List.getElem?_take] at hio
      split at hio
      · exact h.hmem i o hio
      · simp at hio
    · rw [hlen']; exact fun i j hi hj => h.inj i j (by omega) (by omega)
    · exact fun b => Nat.le_trans (Nat.add_le_add_left (hsub b) _) (h.uniq b)
    · intro b hb
      have := h.own b (hb.imp id fun hb => List.count_pos_iff.1 (Nat.lt_of_lt_of_le (List.count_pos_iff.2 hb) (hsub b)))
      exact ⟨this.1, by rw [hlen']; exact fun i hi => this.2 i (by omega)⟩
    · rw [hlen']; exact ⟨hN, h.frφ.2⟩

theorem tup1_conc (f : Nat → Nat) (svs : List (V D)) : V.conc f (tup1 svs) = (if h : (svs.map (V.conc f)).toArray.size = 1 then (svs.map (V.conc f)).toArray[0] else .tuple (svs.map (V.conc f)).toArray) := by
  cases svs with
  | nil => simp [tup1, V.conc, concL]
  | cons v l => cases l with
    | nil => simp [tup1]
    | cons u l => simp [tup1, V.conc, concL_map]
theorem tup1_er (svs : List (V D)) : (tup1 svs).er = tup1 (svs.map V.er) := by
  cases svs with
  | nil => rfl
  | cons v l => cases l with
    | nil => rfl
    | cons u l => simp [tup1, V.er, erL_map]

/-! loops over functions -/
theorem Rel.frds {fr : Fr} {rd : Option Nat} {ds : List Nat} {g : Ghost} {vs : List (V D)} {Hs : List (Ob D)} {w : World} : Rel { fr with rd := rd, ds := ds } g vs Hs w ↔ Rel fr g vs Hs w :=
  ⟨fun h => ⟨h.mem, h.low, h.hmem, h.inj, h.uniq, h.own, h.frX, h.frF, h.frC, h.frS, h.frφ, h.new, h.gl⟩, fun h => ⟨h.mem, h.low, h.hmem, h.inj, h.uniq, h.own, h.frX, h.frF, h.frC, h.frS, h.frφ, h.new, h.gl⟩⟩

section
variable {fr fr1 : Fr} {g g0 : Ghost} {vs vs0 : List (V D)} {Hs Hs0 : List (Ob D)} {w w0 : World} {d : Nat}
theorem Rel.of_more (hR : Rel fr1 g0 vs0 Hs0 w0) (k : Rel (fr1.more g0 Hs0.length w0 d) g vs Hs w) : Rel fr1 g vs Hs w := by
  have k' : Rel (fr1.of g0 [] Hs0.length w0) g vs Hs w := by
    refine ⟨k.mem, k.low, ?_, k.inj, k.uniq, ?_, ?_, k.frF, k.frC, k.frS, k.frφ, k.new, k.gl⟩
    · intro i o hio
      obtain ⟨h1, h2, h3, h4⟩ := k.hmem i o hio
      exact ⟨h1, h2, h3, fun h => h4 (h.imp id fun h => by simp [flL] at h)⟩
    · intro b hb
      obtain ⟨h1, h2⟩ := k.own b hb
      exact ⟨fun h => h1 (h.imp id fun h => by simp [flL] at h), h2⟩
    · intro b hb
      exact k.frX b (hb.imp id fun h => by simp [flL] at h)
  have h0 : Rel fr1 g0 (vs0 ++ []) Hs0 w0 := by rw [List.append_nil]; exact hR
  have := h0.unframe k'
  rwa [List.append_nil] at this

theorem FrX.rel (h : FrX fr fr1) (k : Rel fr1 g vs Hs w) : Rel fr g vs Hs w := by
  induction h with
  | refl => exact k
  | step h hR hd hF hX ih => exact ih (hR.of_more k)

theorem Rel.shut (hR : Rel fr1 g0 vs0 Hs0 w0) (hd : w0.heap[d]? = some (.deferred (some []))) (hF : g0.F d = 0) (hX : ¬ fr1.X d) (k : Rel (fr1.more g0 Hs0.length w0 d) g vs Hs w) :
    w.heap[d]? = some (.deferred (some [])) ∧ Rel fr1 g vs Hs (w.putObj d (.deferred none)) := by
  obtain ⟨k1, k2, k3⟩ := k.frX d (.inr rfl)
  have hother : ∀ b, b ≠ d → (w.putObj d (.deferred none)).heap[b]? = w.heap[b]? := fun b hb => World.putObj_heap_other hb
  refine ⟨k1.trans hd, (hR.of_more k).world (by simp) ⟨rfl, rfl, rfl⟩ ?_ ?_ ?_ ?_⟩
  · exact fun b hb => hother b fun e => (k.own b hb).1 (.inr e)
  · intro i hi
    refine hother _ fun e => ?_
    obtain ⟨_, _, _, h4⟩ := k.hmem i Hs[i] (by simp [hi])
    exact h4 (.inr e)
  · intro b i hi
    have hb : b ≠ d := by rintro rfl; rw [k2] at hi; exact absurd hi (by show ¬ i < g0.F b; omega)
    exact cell_of_heap (hother b hb) i
  · exact fun b hb => hother b fun e => hX (e ▸ hb)

theorem FrX.leaves {F : Fence} {n : Nat} {P : Program} {fn : Func} {tmps : Array Value} {R : Ending → World → Prop} (h : FrX fr fr1) (h0 : fr.ds = []) :
    ∀ w, Rel fr1 g vs Hs w → (∀ w', Rel fr g vs Hs w' → ∃ v, (results fn tmps).run P w' = .ok v w' ∧ R (.returned v) w') → LeavesInM F n P fn tmps R (fr1.ds.map mark) .returning w := by
  induction h with
  | refl => intro w k hr; rw [h0]; exact hr w k
  | step h hR hd hF hX ih =>
    intro w k hr
    obtain ⟨k1, k2⟩ := hR.shut hd hF hX k
    exact ⟨by simp, .inl ⟨_, _, rfl, run_takeDeferred k1, ih _ k2 hr⟩⟩
end

/-- The contract of a function that has a body. -/
theorem AC.enter {E : Env} (hE : E.Ok) {f : FuncId} {fn : Func} {c : Code} {args : List A} {H : Heap} {Q : A → Heap → Prop} (hf : E.P.funcs[f]? = some fn) (hb : fn.body = some c)
    (hname : (fn.name == "runtime.NumGoroutine") = false) (hn : E.n = fn.ntmps) (hlen : args.length ≤ fn.ntmps) (h : AW E c (retQ E fn H.length Q) (st0 args H)) : AC E.P f args H Q := by
  intro fr' g as Hs w hR' h1 h2
  let fr : Fr := { fr' with rd := none, ds := [] }
  have hR : Rel fr g as Hs w := Rel.frds.2 hR'
  have hcall : (callFunc f (as.map (V.conc g.φ)).toArray).run E.P w = .ok (.enter f (as.map (V.conc g.φ)).toArray) w := by
    unfold callFunc
    rw [run_bind (show (program).run E.P w = .ok E.P w from rfl)]
    simp only [hf]
    rw [if_neg (by simp [hname]), if_neg (by simp [hb])]
    rfl
  rw [hcall]
  refine (callsIn_wide (n := 0)).1 (callsIn_of_wp_marks hf hb trivial ?_)
  have hal : as.length = args.length := by rw [← h1, List.length_map]
  let vs0 : List (V D) := as ++ List.replicate (fn.ntmps - as.length) ud
  have hR0 : Rel fr g vs0 Hs w := by
    refine hR.weaken ?_ ?_ ?_
    · intro v hv
      rcases List.mem_append.1 hv with hv | hv
      · exact hR.mem v hv
      · rw [(List.mem_replicate.1 hv).2]; simp [ud, Mem]
    · intro v hv
      rcases List.mem_append.1 hv with hv | hv
      · exact hR.low v hv
      · rw [(List.mem_replicate.1 hv).2]; rfl
    · intro b
      have : flL (List.replicate (fn.ntmps - as.length) ud) = [] := by
        rw [flL_flatMap, List.flatMap_eq_nil_iff]; intro v hv; rw [(List.mem_replicate.1 hv).2]; rfl
      show (flL (as ++ _)).count b ≤ _
      rw [flL_append, this, List.append_nil]; exact Nat.le_refl _
  have hA0 : At fr E.n g.φ (st0 args H) vs0 Hs { tmps := (as.map (V.conc g.φ)).toArray ++ Array.replicate (fn.ntmps - (as.map (V.conc g.φ)).toArray.size) undef, defers := [] } := by
    refine ⟨?_, ?_, ?_, h2, rfl⟩
    · show (as ++ List.replicate _ _).length = _
      simp; omega
    · apply Array.ext'
      show _ = ((as ++ List.replicate _ ud).map (V.conc g.φ))
      simp [V.conc, ud, undef]
    · intro t
      show args.getD t (.undef ()) = ((as ++ List.replicate _ ud).getD t ud).er
      rw [← h1]
      simp only [List.getD_eq_getElem?_getD, List.getElem?_map]
      by_cases ht : t < as.length
      · rw [List.getElem?_append_left ht]; simp [ht]
      · rw [List.getElem?_append_right (by omega), List.getElem?_eq_none (by omega : as.length ≤ t)]
        rw [List.getElem?_replicate]
        split <;> rfl
  refine Code.wpIn_mono ?_ (h fr g vs0 Hs _ w (fun _ => rfl) hR0 hA0)
  rintro e a' w0' ⟨fr1, hx, x, st', g', vs', Hs', rfl, k1', k2, k3⟩
  have hfin : ∀ (vs : List A) (st1 : St), resL E fn.results.toList st' = some (vs, st1) → (Q (tup1 vs) st1.H ∨ ((tup1 vs).low H.length = true ∧ Q (tup1 vs) (st1.H.take H.length))) →
      LeavesInM Fence.wide 0 E.P fn a'.tmps (CPost fr' Q) a'.defers .returning w0' := by
    intro vs st1 hr hq
    rw [k2.df]
    refine hx.leaves rfl w0' k1' fun w' k1 => ?_
    obtain ⟨g1, svs, vs1, Hs1, l1, l2, l3, l5, l4⟩ := resL_sound hE fn.results.toList [] vs' st' g' Hs' w' { a' with defers := [] } vs st1 k1 ⟨k2.len, k2.tm, k2.σ, k2.H, rfl⟩ hr
    have l1' : Rel fr g1 [tup1 svs] Hs1 w' := by
      have hsv : Rel fr g1 svs Hs1 w' := l1.sub (fun v hv => by simp [hv]) (fun b => by simp only [flL_append, List.count_append]; omega)
      refine hsv.weaken ?_ ?_ ?_
      · intro v hv
        simp only [List.mem_singleton] at hv; subst hv
        cases svs with
        | nil => simp [tup1, Mem, MemL]
        | cons x l => cases l with
          | nil => exact hsv.mem x (by simp)
          | cons y l => simp only [tup1, Mem, MemL_all]; exact hsv.mem
      · intro v hv
        simp only [List.mem_singleton] at hv; subst hv
        cases svs with
        | nil => rfl
        | cons x l => cases l with
          | nil => exact hsv.low x (by simp)
          | cons y l => simp only [tup1, V.low, lowL_all, List.all_eq_true]; exact hsv.low
      · intro b
        cases svs with
        | nil => simp [tup1, flL, fl]
        | cons x l => cases l with
          | nil => simp [tup1, flL]
          | cons y l => simp [tup1, flL, fl]
    refine ⟨V.conc g1.φ (tup1 svs), ?_, ?_⟩
    · unfold results
      have hm : (fn.results.mapM fun x => (match x with | .tmp t => pure (a'.tmps.getD t undef) | .cell b t => do loadVar t (← asAddr (a'.tmps.getD b undef)) : Sem Value)).run E.P w' = .ok (svs.map (V.conc g1.φ)).toArray w' := by
        rw [← Array.toArray_toList (xs := fn.results), List.mapM_toArray]
        show ((fn.results.toList.mapM fun x => (match x with | .tmp t => pure (a'.tmps.getD t undef) | .cell b t => do loadVar t (← asAddr (a'.tmps.getD b undef)) : Sem Value)) >>= fun l => pure l.toArray).run E.P w' = _
        rw [run_bind l4]; rfl
      refine (run_bind (w' := w') (x := (svs.map (V.conc g1.φ)).toArray) ?_).trans ?_
      · exact hm
      · rw [tup1_conc]; rfl
    · rcases hq with hq | ⟨hlow, hq⟩
      · exact ⟨g1, tup1 svs, Hs1, rfl, Rel.frds.1 l1', by rw [tup1_er, l3, l2.H]; exact hq⟩
      · refine ⟨g1, tup1 svs, Hs1.take H.length, rfl, Rel.frds.1 (Rel.take_H l1' ?_ ?_), by rw [tup1_er, l3, List.map_take, l2.H]; exact hq⟩
        · rw [← h2, List.length_map]; exact hR.frφ.1
        · intro v hv
          simp only [List.mem_singleton] at hv; subst hv
          rw [← er_low, tup1_er, l3]; exact hlow
  unfold retQ at k3
  cases x with
  | normal =>
    simp only at k3
    split at k3
    · rename_i vs st1 hr
      exact hfin vs st1 hr k3
    · exact k3.elim
  | ret =>
    simp only at k3
    split at k3
    · rename_i vs st1 hr
      exact hfin vs st1 hr k3
    · exact k3.elim
  | exit id => exact k3.elim
  | goto l => exact k3.elim
end Go.Ab
end
