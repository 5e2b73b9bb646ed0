/- Abstract values and rules for them, proved sound over the model. -/
import Derived.Test.YtbdhocfaebchfaaOpLAbLaw
set_option linter.all false
set_option linter.unusedSimpArgs false
set_option linter.unusedVariables false
set_option linter.unnecessarySimpa false
section
/- A law whose function answers true: the given statement's contract. -/
namespace Go.Ab
open V Go.ChangeShapes Go.WideShapes Go.RowKit
variable [Glob]
set_option linter.unusedSimpArgs false
set_option linter.unusedVariables false
set_option linter.unusedSectionVars false

section
variable {H : Type} {enc : TypeId × Value → H} {P : Program} {W : World} {base : Nat} {spare : Nat → Bool} {held : Bool}

/-- One argument. -/
theorem abs_arg (hspare : ∀ b, spare b = true) {n : Nat} {r : Reach} {b0 : Nat} {t : TypeId} {v : Value} {d : DataW H} {ps : List MemPlace} (hok : okT P n true t = true) (hv : Value.okWide P W r b0 t v) (hd : DataW.Trod enc P W base spare held t v d ps) :
    ∃ a : V D, a.conc (g0 W).φ = v ∧ Mem (g0 W) W a ∧ a.flagless = true ∧ a.low 0 = true ∧ FitsV P n t a.er := by
  obtain ⟨fuel, hf⟩ := hd
  by_cases hagg : aggT P t = true
  · have hv' : ∃ cs, v = .agg cs ∧ cs.size = P.cellsOf t ∧ Row.okWide P W r b0 t cs := by
      unfold aggT at hagg
      unfold Value.okWide at hv
      split at hagg
      · rename_i fs hu; rw [hu] at hv; exact hv
      · rename_i m e hu; rw [hu] at hv; exact hv
      · cases hagg
    obtain ⟨cs, rfl, _, ts, _, _, hrow⟩ := hv'
    obtain ⟨as, k1, k2, k3⟩ := abs_cells hspare n true t fuel _ _ hok hf
    refine ⟨.agg as, ?_, (MemL_all _).2 fun v hv => (k2 v hv).1, ?_, ?_, ?_⟩
    · simp only [conc, concL_map, k1, Value.cells]
    · simp only [flagless, flaglessL_all, List.all_eq_true]; exact fun v hv => (k2 v hv).2.2.1
    · simp only [low, lowL_all, List.all_eq_true]; exact fun v hv => (k2 v hv).2.2.2
    · unfold FitsV; rw [if_pos hagg]; exact ⟨as.map er, by simp [er, erL_map], k3⟩
  · have hcell : Cell.okWide P W r b0 t v := by
      unfold Value.okWide at hv
      unfold aggT at hagg
      split at hv
      · rename_i fs hu; rw [hu] at hagg; simp at hagg
      · rename_i m e hu; rw [hu] at hagg; simp at hagg
      · exact hv
    have hone : v.cells = #[v] := by
      unfold Value.cells
      split
      · rename_i cs
        exfalso
        unfold Cell.okWide at hcell
        split at hcell <;> simp_all
        unfold Cell.ok at hcell
        split at hcell <;> simp_all
      · rfl
    obtain ⟨as, k1, k2, k3⟩ := abs_cells hspare n true t fuel _ _ hok hf
    rw [hone] at k1
    obtain ⟨y, rfl⟩ : ∃ y, as = [y] := by
      have : as.length = 1 := by rw [← List.length_map (f := V.conc (g0 W).φ), k1]; rfl
      match as, this with
      | [y], _ => exact ⟨y, rfl⟩
    have hy := k2 y (by simp)
    refine ⟨y, by simpa using k1, hy.1, hy.2.2.1, hy.2.2.2, ?_⟩
    unfold FitsV
    rw [if_neg hagg]
    exact k3

theorem abs_args (hspare : ∀ b, spare b = true) {n : Nat} {r : Reach} {b0 : Nat} : ∀ (ts : List TypeId) (vs : List Value) (ds : List (DataW H)) (ps : List MemPlace), (∀ t ∈ ts, okT P n true t = true) → (∀ (j : Nat) t v, ts[j]? = some t → vs[j]? = some v → Value.okWide P W r b0 t v) →
    DataW.TrodAll enc P W base spare held ts vs ds ps →
    ∃ as : List (V D), as.map (V.conc (g0 W).φ) = vs ∧ (∀ a ∈ as, Mem (g0 W) W a ∧ a.flagless = true ∧ a.low 0 = true) ∧ as.length = ts.length ∧ ds.length = ts.length ∧ ∀ (j : Nat) t a, ts[j]? = some t → (as.map er)[j]? = some a → FitsV P n t a := by
  intro ts
  induction ts with
  | nil =>
    intro vs ds ps _ _ h
    obtain ⟨rfl, rfl, _⟩ := trodAll_nil h
    exact ⟨[], rfl, by simp, rfl, rfl, by simp⟩
  | cons t ts ih =>
    intro vs ds ps hok hv h
    obtain ⟨v, vs', d, ds', p, q, rfl, rfl, rfl, h1, h2⟩ := trodAll_cons h
    obtain ⟨a, a1, a2, a3, a4, a5⟩ := abs_arg hspare (hok t (by simp)) (hv 0 t v rfl rfl) h1
    obtain ⟨as, b1, b2, b3, b4, b5⟩ := ih vs' ds' q (fun t ht => hok t (by simp [ht])) (fun j t v hj hv' => hv (j + 1) t v (by simpa using hj) (by simpa using hv')) h2
    refine ⟨a :: as, by simp [a1, b1], ?_, by simp [b3], by simp [b4], ?_⟩
    · intro x hx
      rcases List.mem_cons.1 hx with rfl | hx
      · exact ⟨a2, a3, a4⟩
      · exact b2 x hx
    · intro j t' a' hj ha
      cases j with
      | zero => simp only [List.map_cons, List.getElem?_cons_zero, Option.some.injEq] at hj ha; subst hj; subst ha; exact a5
      | succ j => simp only [List.map_cons, List.getElem?_cons_succ] at hj ha; exact b5 j t' a' hj ha

/-- What was there is there still. -/
def Kept (W W' : World) : Prop := W'.os = W.os ∧ W'.output = W.output ∧ ∀ b, b < W.heap.size → W'.heap[b]? = W.heap[b]?

/-- The program's tables lie in a world. -/
def TabsAt (W : World) : Prop := ∀ b cs, Glob.tab b = some cs → cs.length ≤ gF W b ∧ ∀ j c, cs[j]? = some c → W.cell? ⟨b, j, none⟩ = some (leafV c)

theorem law_calls (htab : TabsAt W) {f : FuncId} {fn : Func} {c : Code} (hfn : P.funcs[f]? = some fn) (hb : fn.body = some c) (hname : (fn.name == "runtime.NumGoroutine") = false) {args : Array Value} {as : List (V D)}
    (has : as.map (V.conc (g0 W).φ) = args.toList) (hg : ∀ a ∈ as, Mem (g0 W) W a ∧ a.flagless = true ∧ a.low 0 = true) (h : AC P f (as.map er) [] (fun r _ => r = .bool true)) :
    Calls P f args W (fun e W' => e = .returned (.bool true) ∧ Kept W W') := by
  have hfl : flL as = [] := flL_nil (by rw [flaglessL_all]; simp only [List.all_eq_true]; exact fun a ha => (hg a ha).2.1)
  have hR : Rel { w0 := W, F0 := gF W, X := fun b => b < W.heap.size, φ0 := fun _ => 0, N0 := 0 } (g0 W) as [] W := by
    refine ⟨fun a ha => (hg a ha).1, fun a ha => (hg a ha).2.2, by simp, by simp, ?_, ?_, fun b hb => ⟨rfl, rfl, hb⟩, fun b => Nat.le_refl _, fun b i _ => rfl, ⟨Nat.le_refl _, rfl, rfl, rfl⟩, ⟨Nat.le_refl _, by simp⟩, ?_, htab⟩
    · intro b; rw [hfl]; simp [flH, flL]
    · intro b hb; rw [hfl] at hb; simp [flH, flL] at hb
    · intro b hb
      show gF W b = 0
      unfold gF
      rw [Array.getElem?_eq_none hb]
  have := h _ (g0 W) as [] W hR rfl rfl
  have hcall : (callFunc f (as.map (V.conc (g0 W).φ)).toArray).run P W = .ok (.enter f (as.map (V.conc (g0 W).φ)).toArray) W := by
    unfold callFunc
    rw [run_bind (show (program).run P W = .ok P W from rfl)]
    simp only [hfn]
    rw [if_neg (by simp [hname]), if_neg (by simp [hb])]
    rfl
  rw [hcall] at this
  simp only [has, Array.toArray_toList] at this
  refine this.mono ?_
  rintro e W' ⟨g', r, Hs', rfl, hR', hq⟩
  have := er_bool hq
  subst this
  exact ⟨rfl, hR'.frS.2.1, hR'.frS.2.2.2, fun b hb => (hR'.frX b hb).1⟩

theorem Kept.same {W W' : World} (h : Kept W W') {p : MemPlace} (hp : p.block < W.heap.size) : W.sameAt W' p := by
  cases p with
  | cell b o => show W'.cell? _ = W.cell? _; unfold World.cell?; simp only; rw [h.2.2 b hp]
  | map b => exact h.2.2 b hp

theorem Kept.args {W W' : World} (hk : Kept W W') (hl : laidOutB P = true) {sp : Nat → Bool} : ∀ (ts : List TypeId) (vs : List Value) (ds : List (DataW H)) (ps : List MemPlace), (∀ t ∈ ts, P.readableRec t = true ∧ t < P.types.size) →
    (∀ p ∈ ps, p.block < W.heap.size ∧ sp p.block = true) → DataW.TrodAll enc P W base (fun _ => true) true ts vs ds ps → DataW.TrodAll enc P W' base sp true ts vs ds ps := by
  intro ts
  induction ts with
  | nil =>
    intro vs ds ps _ _ h
    obtain ⟨rfl, rfl, rfl⟩ := trodAll_nil h
    rfl
  | cons t ts ih =>
    intro vs ds ps ht hp h
    obtain ⟨v, vs', d, ds', p, q, rfl, rfl, rfl, h1, h2⟩ := trodAll_cons h
    refine ⟨p, q, WideElems.Trod_stays hl (ht t (by simp)).1 (ht t (by simp)).2 h1 (fun x hx => hk.same (hp x (by simp [hx])).1) (fun x hx => (hp x (by simp [hx])).2), ?_, rfl⟩
    exact ih vs' ds' q (fun t h => ht t (by simp [h])) (fun x hx => hp x (by simp [hx])) h2

theorem Kept.but {W W' : World} (h : Kept W W') (may : MemPlace → Prop) : W.keptBut W' may := by
  refine ⟨h.1, h.2.1, fun i hi => ?_⟩
  rw [h.2.2 i hi]
  cases hq : W.heap[i]? with
  | none => rfl
  | some o => cases o <;> simp

/-- The contract of a given statement: the law answers true, and its arguments read as they did. -/
theorem law_post {f : FuncId} {fn : Func} {c : Code} {s : ChangeSpec} {apart fresh : Bool} {n : Nat} {rt : TypeId} (hvars : s.vars = []) (hl : laidOutB P = true) (hts : ∀ t ∈ fn.params.toList, okT P n true t = true ∧ P.readableRec t = true ∧ t < P.types.size)
    (hrt : fn.resultTypes = #[rt]) (hbool : P.underlying rt = some .bool) (hfn : P.funcs[f]? = some fn) (hb : fn.body = some c) (hname : (fn.name == "runtime.NumGoroutine") = false)
    (hs : ∀ ds : List (DataW H), ds.length = fn.params.size → s.fn H ds = { results := [.lit (.bool true)], args := ds })
    (hAC : ∀ as : List A, as.length = fn.params.size → (∀ (j : Nat) t a, fn.params[j]? = some t → as[j]? = some a → FitsV P n t a) → AC P f as [] (fun r _ => r = .bool true))
    {W : World} {base : Nat} {args : Array Value} {ds gs : List (DataW H)} {before : List MemPlace} (hval : ∀ (j : Nat) t v, fn.params[j]? = some t → args[j]? = some v → Value.okWide P W .any base t v)
    (hW : DataW.Whole enc P fn.params.toList s.vars apart W args.toList ds gs before) (htab : TabsAt W) : Calls P f args W (fun e W' => ∃ v, e = .returned v ∧ s.post enc P fn apart fresh false false W args v W') := by
  have hW' := hW
  obtain ⟨p, q, hA, hV, rfl, _, _⟩ := hW
  rw [hvars] at hV
  obtain ⟨rfl, rfl⟩ := trodVars_none hV
  obtain ⟨as, a1, a2, a3, a4, a5⟩ := abs_args (fun _ => rfl) fn.params.toList args.toList ds p (fun t ht => (hts t ht).1) (fun j t v hj hv => hval j t v (by simpa using hj) (by simpa using hv)) hA
  have hlen : ds.length = fn.params.size := by rw [a4]; simp
  refine (law_calls htab hfn hb hname a1 a2 (hAC (as.map er) (by simp [a3]) fun j t a hj ha => a5 j t a (by simpa using hj) ha)).mono ?_
  rintro e W' ⟨rfl, hk⟩
  have hfnv := hs ds hlen
  refine ⟨_, rfl, ds, [], p ++ [], [], p, [], hW', ?_, ?_, ?_, hk.but _, fun h => by cases h⟩
  · rw [List.append_nil, hfnv, hrt]
    exact trodAll_mk1 (shut_bool hbool true)
  · rw [List.append_nil, hfnv]
    exact hk.args hl _ _ _ _ (fun t ht => (hts t ht).2) (fun x hx => ⟨hW'.lt x (by simpa using hx), by simpa using hW'.lt x (by simpa using hx)⟩) hA
  · rw [List.append_nil, hfnv, hvars]
    rfl
end
end Go.Ab
end
