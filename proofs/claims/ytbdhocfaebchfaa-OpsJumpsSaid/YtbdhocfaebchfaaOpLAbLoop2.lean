/- Abstract values and rules for them, proved sound over the model. -/
import Derived.Test.YtbdhocfaebchfaaOpLAbLoop
set_option linter.all false
set_option linter.unusedSimpArgs false
set_option linter.unusedVariables false
set_option linter.unnecessarySimpa false
section
/- The statement of a loop over a function. -/
namespace Go.Ab
open V
variable [Glob]
set_option linter.unusedSimpArgs false
set_option linter.unusedVariables false
set_option linter.unusedSectionVars false

theorem callFunc_enter {P : Program} {f : FuncId} {fn : Func} {c : Code} {args : Array Value} {w : World} (hf : P.funcs[f]? = some fn) (hb : fn.body = some c)
    (hname : (fn.name == "runtime.NumGoroutine") = false) : (callFunc f args).run P w = .ok (.enter f args) w := by
  unfold callFunc
  rw [run_bind (show (program).run P w = .ok P w from rfl)]
  simp only [hf]
  rw [if_neg (by simp [hname]), if_neg (by simp [hb])]
  rfl

/-- The temporaries that a round begins with. -/
def tmpsOf (n : Nat) (σ : Nat → A) : List A := (List.range n).map fun t => lv (σ t)

/-- When the function has returned. -/
def rfQ (l : Nat) (σ : Nat → A) (N : Nat) (Q : X → St → Prop) (H' : Heap) : Prop :=
  ∃ H1 r cs x, H' = H1 ++ [.loop l r cs] ∧ H1.length = N ∧ r.state ≠ .busy ∧ r.pending = x.jump ∧ Q x ⟨σ, H1⟩

theorem AW.rangeFunc {E : Env} (hE : E.Ok) (hrnd : E.rnd = false) {gop : Operand} {ps : Array Tmp} {assign body : Code} {st : St} {Q : X → St → Prop} {F : FuncId} {first cap : List A} {fn : Func} {c : Code}
    (hf : E.P.funcs[F]? = some fn) (hb : fn.body = some c) (hname : (fn.name == "runtime.NumGoroutine") = false)
    (hg : ev st gop = .fn (.func F) first cap) (hfl : (first.all flagless && cap.all flagless) = true)
    (h : ∀ l r, r.state = .ready → r.pending = none → r.params = ps → r.assign = assign → r.body = body →
      AC E.P F (first ++ [.fn (.yield l) [] []] ++ cap) (st.H ++ [.loop l r (tmpsOf E.n st.σ)]) (fun _ H' => rfQ l st.σ st.H.length Q H')) : AW E (.rangeFunc gop ps assign body) Q st := by
  intro fr g vs Hs a w hrd hR hA
  have hrd := hrd hrnd
  rw [hrd]
  show Code.wpIn Fence.wide 0 _ _ _ _ _
  refine wpIn_rangeFunc fun fid _ => ?_
  have hlen : st.H.length = Hs.length := by rw [← hA.H, List.length_map]
  -- the block and the record
  have h1 : Rel fr g vs Hs (pushW w (.deferred (some []))) := hR.push _
  have hX : ¬ fr.X w.heap.size := fun hx => by have := (hR.frX _ hx).2.2; have := hR.frS.1; omega
  have hFD : g.F w.heap.size = 0 := hR.new _ (Nat.le_refl _)
  have h2 : Rel (fr.more g Hs.length (pushW w (.deferred (some []))) w.heap.size) g vs Hs (pushW w (.deferred (some []))) :=
    h1.more (by rw [push_size]; omega) (fun b hb => by have := hR.blk_lt hb; omega) (fun i hi => by have := hR.φ_lt hi; omega)
  have hFX : FrX fr (fr.more g Hs.length (pushW w (.deferred (some []))) w.heap.size) := .step .refl h1 (push_new _ _) hFD hX
  generalize hfr1 : fr.more g Hs.length (pushW w (.deferred (some []))) w.heap.size = fr1 at h2 hFX
  have hN0 : fr1.N0 = Hs.length := by rw [← hfr1]; rfl
  have hds : fr1.ds = w.heap.size :: fr.ds := by rw [← hfr1]; rfl
  let dsd := vs.map (leave (raw g.φ))
  have hdsd : flL dsd = [] := by
    rw [flL_flatMap, List.flatMap_eq_nil_iff]
    intro v hv
    obtain ⟨x, _, rfl⟩ := List.mem_map.1 hv
    exact fl_nil (leave_flagless _ _)
  have h3 : Rel fr1 g (dsd ++ vs) Hs (pushW w (.deferred (some []))) := by
    refine h2.weaken ?_ ?_ (fun b => by rw [flL_append, hdsd]; exact Nat.le_refl _)
    · intro v hv
      rcases List.mem_append.1 hv with hv | hv
      · obtain ⟨x, hx, rfl⟩ := List.mem_map.1 hv; exact Mem_leave _ (h2.mem x hx)
      · exact h2.mem v hv
    · intro v hv
      rcases List.mem_append.1 hv with hv | hv
      · obtain ⟨x, hx, rfl⟩ := List.mem_map.1 hv; exact low_leave _ (h2.low x hx)
      · exact h2.low v hv
  let rec' : Loop := { state := .ready, pending := none, fn := fid, tmps := a.tmps, params := ps, assign := assign, body := body, defers := w.heap.size }
  obtain ⟨φ, p1, p2, p3⟩ := h3.newLoop (r := rec') (by
    show a.tmps = _
    rw [hA.tm]
    simp only [dsd, List.map_map]
    congr 1
    exact List.map_congr_left fun v _ => (conc_leave _ _).symm)
  have hl : (pushW w (.deferred (some []))).heap.size = w.heap.size + 1 := push_size _ _
  rw [hl] at p2 p3
  -- the call
  have hsf := hg
  rw [hA.ev_eq] at hsf
  obtain ⟨fs, cs, hsf2, rfl, rfl⟩ := er_fn hsf
  have hAφ : At fr E.n φ st vs Hs a := hA.rephi p1 hR.low
  have hA' : At fr1 E.n φ ⟨st.σ, st.H ++ [.loop (w.heap.size + 1) rec' (tmpsOf E.n st.σ)]⟩ vs (Hs ++ [.loop (w.heap.size + 1) rec' dsd]) { a with defers := [mark w.heap.size] ++ a.defers } := by
    refine ⟨hA.len, hAφ.tm, hA.σ, ?_, ?_⟩
    · rw [List.map_append, hA.H]
      simp only [List.map_cons, List.map_nil, Ob.er]
      congr 3
      apply List.ext_getElem?
      intro t
      simp only [dsd, tmpsOf, List.getElem?_map, List.getElem?_range', Option.map_map]
      by_cases ht : t < E.n
      · have hv : vs[t]? = some (vs.getD t ud) := by rw [List.getD_eq_getElem?_getD, List.getElem?_eq_getElem (by rw [hA.len]; exact ht)]; rfl
        rw [hv, List.getElem?_range ht]
        simp only [Option.map_some, Function.comp_apply, er_leave, hA.σ]; rfl
      · rw [List.getElem?_eq_none (by rw [hA.len]; omega), List.getElem?_eq_none (by simp; omega)]; rfl
    · show [mark w.heap.size] ++ a.defers = _
      rw [hA.df, hds]; rfl
  have hev : a.eval gop = .func (.func F) (fs.map (V.conc φ)).toArray (cs.map (V.conc φ)).toArray := by
    rw [At.conc_eq (g := ⟨φ, g.F⟩) hAφ gop, hsf2]; simp only [V.conc, concL_map]
  have hmf := hA'.mem_sev p3 gop
  have hsev : sev vs { a with defers := [mark w.heap.size] ++ a.defers } gop = .fn (.func F) fs cs := by rw [← hsf2]; cases gop <;> rfl
  rw [hsev] at hmf
  simp only [Mem, MemL_all, V.low, lowL_all, Bool.and_eq_true, List.all_eq_true] at hmf
  simp only [Bool.and_eq_true, List.all_eq_true, List.mem_map, forall_exists_index, and_imp, forall_apply_eq_imp_iff₂, er_flagless] at hfl
  have hz : ∀ l : List (V D), (∀ x ∈ l, x.flagless = true) → flL l = [] := fun l hl => by
    rw [flL_flatMap, List.flatMap_eq_nil_iff]; exact fun x hx => fl_nil (hl x hx)
  have h4 : Rel fr1 ⟨φ, g.F⟩ ((fs ++ [.fn (.yield (w.heap.size + 1)) [] []] ++ cs) ++ vs) (Hs ++ [.loop (w.heap.size + 1) rec' dsd]) (pushW (pushW w (.deferred (some []))) (.loop rec')) := by
    refine p3.weaken ?_ ?_ ?_
    · intro v hv
      simp only [List.mem_append, List.mem_singleton] at hv
      rcases hv with ((hv | rfl) | hv) | hv
      · exact hmf.1.1 v hv
      · simp [Mem, MemL]
      · exact hmf.1.2 v hv
      · exact p3.mem v hv
    · intro v hv
      simp only [List.mem_append, List.mem_singleton] at hv
      rcases hv with ((hv | rfl) | hv) | hv
      · exact hmf.2.1 v hv
      · rfl
      · exact hmf.2.2 v hv
      · exact p3.low v hv
    · intro b
      simp only [flL_append, hz fs hfl.1, hz cs hfl.2, flL, fl, List.nil_append, List.append_nil]; exact Nat.le_refl _
  have hcall := h (w.heap.size + 1) rec' rfl rfl rfl rfl rfl (fr1.of ⟨φ, g.F⟩ vs (Hs ++ [Ob.loop (w.heap.size + 1) rec' dsd]).length _) ⟨φ, g.F⟩ _ _ _ h4.frame (by simp [V.er, erL_map, erL]) hA'.H
  rw [callFunc_enter hf hb hname] at hcall
  simp only at hcall
  refine ⟨w.heap.size + 1, [mark w.heap.size], pushW (pushW w (.deferred (some []))) (.loop rec'), { target := .fn (.func F) (cs.map (V.conc φ)).toArray, args := (fs.map (V.conc φ)).toArray ++ #[.func (.yield (w.heap.size + 1)) #[] #[]] },
    pushW (pushW w (.deferred (some []))) (.loop rec'), F, ((fs.map (V.conc φ)).toArray ++ #[Value.func (.yield (w.heap.size + 1)) #[] #[]]) ++ (cs.map (V.conc φ)).toArray, pushW (pushW w (.deferred (some []))) (.loop rec'), ?_, ?_, ?_, ?_, ?_, ?_⟩
  · exact run_enterLoop_outer fid a.tmps ps assign body
  · unfold resolve rangeCall
    simp only [hev, Deferred.ofValue]
    rw [show (#[Operand.const (.func (.yield (w.heap.size + 1)) #[] #[])] : Array Operand).map a.eval = #[.func (.yield (w.heap.size + 1)) #[] #[]] from by simp [Act.eval]]
    rfl
  · exact fun _ _ => trivial
  · exact callFunc_enter hf hb hname
  · intro h; simp [Fence.wide] at h
  refine callsIn_wide.2 ?_
  have hargs : ((fs.map (V.conc φ)).toArray ++ #[Value.func (.yield (w.heap.size + 1)) #[] #[]]) ++ (cs.map (V.conc φ)).toArray = ((fs ++ [(V.fn (.yield (w.heap.size + 1)) [] [] : V D)] ++ cs).map (V.conc φ)).toArray := by
    apply Array.ext'; simp [V.conc, concL]
  rw [hargs]
  refine Calls.mono hcall ?_
  rintro e w3 ⟨g', r', Hs2, rfl, hRr, H1, r1, cs1, x, e1, e2, e3, e4, e5⟩
  have hu : Rel fr1 g' vs Hs2 w3 := (h4.unframe hRr).sub (fun v hv => by simp [hv]) (fun b => by simp only [flL_append, List.count_append]; omega)
  have hH2 : (H1 ++ [Ob.loop (w.heap.size + 1) r1 cs1])[Hs.length]? = some (.loop (w.heap.size + 1) r1 cs1) := by
    rw [List.getElem?_append_right (by omega)]; simp [e2, hlen]
  obtain ⟨ds1, hH3, rfl⟩ := getLoop e1 hH2
  obtain ⟨_, ⟨hl1, q2, q3⟩, _, _⟩ := hu.hmem _ _ hH3
  rw [hl1] at q2
  have hend := run_endLoop (P := E.P) q2 e3
  have hφ' : ∀ i, i < Hs.length → g'.φ i = g.φ i := fun i hi => (hRr.frφ.2 i (by show i < (Hs ++ [_]).length; simp; omega)).trans (p1 i hi)
  have hfin : Rel fr1 g' vs (Hs2.take Hs.length) (w3.putObj (w.heap.size + 1) (.loop { r1 with state := .exhausted })) := by
    have := (hu.setLoop (r' := { r1 with state := .exhausted }) hH3 rfl).take_H (N := Hs.length) (by omega) hR.low
    rwa [List.take_set_of_le (Nat.le_refl _)] at this
  have hAt : At fr1 E.n g'.φ ⟨st.σ, H1⟩ vs (Hs2.take Hs.length) { a with defers := [mark w.heap.size] ++ a.defers } := by
    refine ⟨hA.len, ?_, hA.σ, ?_, hA'.df⟩
    · show a.tmps = _
      rw [hA.tm, List.map_congr_left fun v hv => (conc_congr hφ' v (hR.low v hv)).symm]
    · show (Hs2.take Hs.length).map Ob.er = H1
      rw [List.map_take, e1, List.take_append_of_le_length (by omega), List.take_of_length_le (by omega)]
  have hq : Snx E fr Q x.of { a with defers := [mark w.heap.size] ++ a.defers } (w3.putObj (w.heap.size + 1) (.loop { r1 with state := .exhausted })) :=
    ⟨fr1, hFX, x, _, g', vs, _, rfl, hfin, hAt, e5⟩
  refine ⟨_, _, hend, ?_⟩
  generalize w3.putObj (w.heap.size + 1) (.loop { r1 with state := .exhausted }) = w4 at hq ⊢
  rw [e4]
  cases x with
  | normal => exact hq
  | ret => exact wpIn_ret hq
  | exit id => exact wpIn_exit hq
  | goto t => exact wpIn_goto hq
end Go.Ab
end
