/- Abstract values and rules for them, proved sound over the model. -/
import Derived.Test.YtbdhocfaebchfaaOpLAbAl4
set_option linter.all false
set_option linter.unusedSimpArgs false
set_option linter.unusedVariables false
set_option linter.unnecessarySimpa false
section
/- Loops over functions. -/
namespace Go.Ab
open V
variable [Glob]
set_option linter.unusedSimpArgs false
set_option linter.unusedVariables false
set_option linter.unusedSectionVars false

/-! the temporaries of a round -/
def setL {α : Type} : List Tmp → List α → List α → List α
  | p :: ps, v :: vs, l => setL ps vs (l.set p v)
  | _, _, l => l

theorem setL_map {α β : Type} (f : α → β) : ∀ (ps : List Tmp) (vs l : List α), (setL ps vs l).map f = setL ps (vs.map f) (l.map f) := by
  intro ps
  induction ps with
  | nil => intro vs l; rfl
  | cons p ps ih =>
    intro vs l
    cases vs with
    | nil => rfl
    | cons v vs => simp only [setL, List.map_cons, ih, List.map_set]
theorem setL_mem {α : Type} {v : α} : ∀ (ps : List Tmp) (vs l : List α), v ∈ setL ps vs l → v ∈ vs ∨ v ∈ l := by
  intro ps
  induction ps with
  | nil => intro vs l h; exact .inr h
  | cons p ps ih =>
    intro vs l h
    cases vs with
    | nil => exact .inr h
    | cons x vs =>
      rcases ih vs _ h with h | h
      · exact .inl (by simp [h])
      · rcases List.mem_or_eq_of_mem_set h with h | rfl
        · exact .inr h
        · exact .inl (by simp)
theorem setL_length {α : Type} : ∀ (ps : List Tmp) (vs l : List α), (setL ps vs l).length = l.length := by
  intro ps
  induction ps with
  | nil => intro vs l; rfl
  | cons p ps ih =>
    intro vs l
    cases vs with
    | nil => rfl
    | cons x vs => simp only [setL, ih, List.length_set]
theorem setL_count (b : Nat) : ∀ (ps : List Tmp) (vs l : List (V D)), (flL (setL ps vs l)).count b ≤ (flL l).count b + (flL vs).count b := by
  intro ps
  induction ps with
  | nil => intro vs l; simp [setL]
  | cons p ps ih =>
    intro vs l
    cases vs with
    | nil => simp [setL]
    | cons x vs =>
      have h1 := ih vs (l.set p x)
      have h2 := count_set_le b x l p
      simp only [setL, flL, List.count_append]; omega
theorem setL_array : ∀ (ps : List Tmp) (vs : List Value) (l : List Value), (ps.zip vs).foldl (fun (t : Array Value) (p : Tmp × Value) => t.setIfInBounds p.1 p.2) l.toArray = (setL ps vs l).toArray := by
  intro ps
  induction ps with
  | nil => intro vs l; rfl
  | cons p ps ih =>
    intro vs l
    cases vs with
    | nil => rfl
    | cons x vs => simp only [List.zip_cons_cons, List.foldl_cons, List.setIfInBounds_toArray, ih, setL]

namespace Rel
variable {fr : Fr} {g : Ghost} {vs : List (V D)} {Hs : List (Ob D)} {w : World}

theorem flH_set {i : Nat} {o o' : Ob D} (hi : Hs[i]? = some o) (hv : o'.vals = o.vals) : flH (Hs.set i o') = flH Hs := by
  unfold flH
  congr 1
  rw [List.flatMap_def, List.flatMap_def, List.map_set, hv]
  congr 1
  apply List.ext_getElem?
  intro j
  rw [List.getElem?_set]
  split
  · rename_i h; subst h
    obtain ⟨hlt, rfl⟩ := List.getElem?_eq_some_iff.1 hi
    simp [hlt]
  · rfl

/-- A loop's record is written. -/
theorem setLoop {i l : Nat} {r r' : Loop} {cs : List (V D)} (h : Rel fr g vs Hs w) (hi : Hs[i]? = some (.loop l r cs)) (ht : r'.tmps = r.tmps) :
    Rel fr g vs (Hs.set i (.loop l r' cs)) (w.putObj l (.loop r')) := by
  obtain ⟨i1, ⟨hl, i2, i3⟩, i4, i5⟩ := h.hmem i _ hi
  have hilt := (List.getElem?_eq_some_iff.1 hi).1
  have hw : ∀ b, b ≠ l → (w.putObj l (.loop r')).heap[b]? = w.heap[b]? := fun b hb => World.putObj_heap_other hb
  have hc : ∀ b j, j < g.F b → (w.putObj l (.loop r')).cell? ⟨b, j, none⟩ = w.cell? ⟨b, j, none⟩ := fun b j hj => cell_of_heap (hw b (by rintro rfl; rw [← hl, i4] at hj; omega)) j
  have hfl : ∀ b, b ∈ flL vs ∨ b ∈ flH Hs → b ≠ l := fun b hb e => (h.own b hb).2 i hilt (hl.trans e.symm)
  have hM : ∀ (v : V D) n, (∀ b ∈ v.fl, b ∈ flL vs ∨ b ∈ flH Hs) → v.low n = true → Mem g w v → Mem g (w.putObj l (.loop r')) v := fun v n hb hl' hm =>
    Mem_step (g := g) (g' := g) (fun _ => Nat.le_refl _) hc (n := n) (fun _ _ => rfl) v (fun b hbv => ⟨hw b (hfl b (hb b hbv)), rfl⟩) hl' hm
  have hflH := flH_set (Hs := Hs) (o' := .loop l r' cs) hi rfl
  refine { h with mem := ?_, low := ?_, hmem := ?_, inj := ?_, uniq := ?_, own := ?_, frX := ?_, frC := ?_, frS := ?_, frφ := ?_, new := ?_ }
  · exact fun v hv => hM v Hs.length (fun b hb => .inl (flL_mem.2 ⟨v, hv, hb⟩)) (h.low v hv) (h.mem v hv)
  · rw [List.length_set]; exact h.low
  · intro j o ho
    by_cases hj : i = j
    · subst hj
      rw [List.getElem?_set, if_pos rfl, if_pos hilt] at ho
      simp only [Option.some.injEq] at ho
      subst ho
      refine ⟨fun c hcv => ⟨hM c i (fun b hb => .inr (flL_mem.2 ⟨c, List.mem_flatMap.2 ⟨_, List.mem_of_getElem? hi, hcv⟩, hb⟩)) (i1 c hcv).2 (i1 c hcv).1, (i1 c hcv).2⟩, ⟨hl, ?_, ht.trans i3⟩, i4, i5⟩
      rw [hl]; exact World.putObj_heap_same (hl ▸ (Array.getElem?_eq_some_iff.1 i2).1)
    · rw [List.getElem?_set, if_neg hj] at ho
      obtain ⟨h1, h2, h3, h4⟩ := h.hmem j o ho
      have hne : g.φ j ≠ l := fun e => hj (h.inj i j hilt (List.getElem?_eq_some_iff.1 ho).1 (hl.trans e.symm))
      refine ⟨fun c hcv => ⟨hM c j (fun b hb => .inr (flL_mem.2 ⟨c, List.mem_flatMap.2 ⟨_, List.mem_of_getElem? ho, hcv⟩, hb⟩)) (h1 c hcv).2 (h1 c hcv).1, (h1 c hcv).2⟩, ?_, h3, h4⟩
      cases o with
      | cells cs => obtain ⟨a1, ty', a2⟩ := h2; exact ⟨a1, ty', by rw [hw _ hne]; exact a2⟩
      | map es => obtain ⟨en, ck, a2, a3⟩ := h2; exact ⟨en, ck, by rw [hw _ hne]; exact a2, a3⟩
      | loop l r cs => obtain ⟨a1, a2, a3⟩ := h2; exact ⟨a1, by rw [hw _ hne]; exact a2, a3⟩
  · rw [List.length_set]; exact h.inj
  · rw [hflH]; exact h.uniq
  · rw [hflH, List.length_set]; exact h.own
  · intro b hb
    obtain ⟨h1, h2, h3⟩ := h.frX b hb
    exact ⟨(hw b (by rintro rfl; exact i5 (hl ▸ hb))).trans h1, h2, h3⟩
  · intro b j hj
    rw [hc b j (Nat.lt_of_lt_of_le hj (h.frF b))]; exact h.frC b j hj
  · rw [World.putObj_size]; exact h.frS
  · rw [List.length_set]; exact h.frφ
  · rw [World.putObj_size]; exact h.new

/-- A new record. -/
theorem newLoop {cs : List (V D)} {r : Loop} (h : Rel fr g (cs ++ vs) Hs w) (hr : r.tmps = (cs.map (V.conc g.φ)).toArray) :
    ∃ φ, (∀ i, i < Hs.length → φ i = g.φ i) ∧ φ Hs.length = w.heap.size ∧ Rel fr ⟨φ, g.F⟩ vs (Hs ++ [.loop w.heap.size r cs]) (pushW w (.loop r)) := by
  let φ : Nat → Nat := fun i => if i = Hs.length then w.heap.size else g.φ i
  have hφ : ∀ i, i < Hs.length → φ i = g.φ i := fun i hi => by simp only [φ]; rw [if_neg (by omega)]
  have hφn : φ Hs.length = w.heap.size := by simp [φ]
  have k := (h.push (.loop r)).rephi hφ
  refine ⟨φ, hφ, hφn, ?_⟩
  have hlen : (Hs ++ [Ob.loop w.heap.size r cs]).length = Hs.length + 1 := by simp
  have hflH : flH (Hs ++ [Ob.loop w.heap.size r cs]) = flH Hs ++ flL cs := by simp [flH, flL_append, Ob.vals]
  refine { k with mem := ?_, low := ?_, hmem := ?_, inj := ?_, uniq := ?_, own := ?_, frφ := ?_ }
  · exact fun v hv => k.mem v (by simp [hv])
  · exact fun v hv => low_mono (k.low v (by simp [hv])) (by omega)
  · intro i o hio
    rcases Nat.lt_or_ge i Hs.length with hi | hi
    · rw [List.getElem?_append_left hi] at hio; exact k.hmem i o hio
    · have : i = Hs.length := by have := (List.getElem?_eq_some_iff.1 hio).1; omega
      subst this
      simp only [List.getElem?_append_right (Nat.le_refl _), Nat.sub_self, List.getElem?_cons_zero, Option.some.injEq] at hio
      subst hio
      refine ⟨fun c hc => ⟨k.mem c (by simp only [Ob.vals] at hc; simp [hc]), k.low c (by simp only [Ob.vals] at hc; simp [hc])⟩, ⟨hφn, ?_, ?_⟩, ?_, ?_⟩
      · show (pushW w _).heap[φ Hs.length]? = _
        rw [hφn, push_new]
      · rw [hr, List.map_congr_left fun c hc => conc_congr (n := Hs.length) hφ c (h.low c (by simp [hc]))]
      · show g.F (φ Hs.length) = 0
        rw [hφn]; exact h.new _ (Nat.le_refl _)
      · show ¬ fr.X (φ Hs.length)
        rw [hφn]; intro hX; have := (h.frX _ hX).2.2; have := h.frS.1; omega
  · intro i j hi hj he
    rw [hlen] at hi hj
    simp only at he
    rcases Nat.lt_or_ge i Hs.length with hi' | hi'
    · rcases Nat.lt_or_ge j Hs.length with hj' | hj'
      · rw [hφ i hi', hφ j hj'] at he; exact h.inj i j hi' hj' he
      · have : j = Hs.length := by omega
        subst this
        rw [hφ i hi', hφn] at he; have := h.φ_lt hi'; omega
    · have : i = Hs.length := by omega
      subst this
      rcases Nat.lt_or_ge j Hs.length with hj' | hj'
      · rw [hφ j hj', hφn] at he; have := h.φ_lt hj'; omega
      · omega
  · intro b
    have := h.uniq b
    rw [hflH]
    simp only [flL_append, List.count_append] at *; omega
  · intro b hb
    have hb' : b ∈ flL (cs ++ vs) ∨ b ∈ flH Hs := by
      rw [hflH] at hb
      simp only [List.mem_append, flL_append] at hb ⊢
      rcases hb with hb | hb | hb
      · exact .inl (.inr hb)
      · exact .inr hb
      · exact .inl (.inl hb)
    have h2 := k.own b hb'
    refine ⟨h2.1, fun i hi => ?_⟩
    rw [hlen] at hi
    rcases Nat.lt_or_ge i Hs.length with hi' | hi'
    · exact h2.2 i hi'
    · have : i = Hs.length := by omega
      subst this
      show φ Hs.length ≠ b
      rw [hφn]; have := h.blk_lt hb'; omega
  · rw [hlen]; exact ⟨by have := k.frφ.1; omega, k.frφ.2⟩

/-- The block for a loop's deferred calls is kept from here on. -/
theorem more {d : Nat} (h : Rel fr g vs Hs w) (hd : d < w.heap.size) (hfl : ∀ b, b ∈ flL vs ∨ b ∈ flH Hs → b ≠ d) (hφ : ∀ i, i < Hs.length → g.φ i ≠ d) : Rel (fr.more g Hs.length w d) g vs Hs w := by
  refine ⟨h.mem, h.low, ?_, h.inj, h.uniq, ?_, ?_, fun _ => Nat.le_refl _, fun _ _ _ => rfl, ⟨Nat.le_refl _, rfl, rfl, rfl⟩, ⟨Nat.le_refl _, fun _ _ => rfl⟩, h.new, h.gok⟩
  · intro i o hio
    obtain ⟨h1, h2, h3, h4⟩ := h.hmem i o hio
    exact ⟨h1, h2, h3, fun hx => hx.elim h4 (hφ i (List.getElem?_eq_some_iff.1 hio).1)⟩
  · intro b hb
    obtain ⟨h1, h2⟩ := h.own b hb
    exact ⟨fun hx => hx.elim h1 (hfl b hb), h2⟩
  · intro b hb
    refine ⟨rfl, rfl, ?_⟩
    rcases hb with hb | rfl
    · have := (h.frX b hb).2.2; have := h.frS.1; show b < w.heap.size; omega
    · exact hd
end Rel

/-- The jump that a round leaves pending. -/
def X.jump : X → Option Code
  | .normal => none
  | .ret => some .ret
  | .exit id => some (.exit id)
  | .goto l => some (.goto l)

/-- At a round's end. -/
def rndQ (i l : Nat) (Q : A → Heap → Prop) (x : X) (st : St) : Prop :=
  ∃ r cs, st.H[i]? = some (.loop l r cs) ∧ Q (.bool x.jump.isNone) (st.H.set i (.loop l { r with state := if x.jump.isNone then .ready else .done, pending := x.jump } cs))

theorem getLoop {Hs : List (Ob D)} {H : Heap} (hH : Hs.map Ob.er = H) {i l : Nat} {r : Loop} {cs : List A} (h : H[i]? = some (.loop l r cs)) : ∃ ds, Hs[i]? = some (.loop l r ds) ∧ cs = ds.map V.er := by
  rw [← hH, List.getElem?_map] at h
  obtain ⟨o, ho, he⟩ := Option.map_eq_some_iff.1 h
  cases o with
  | cells ds => simp [Ob.er] at he
  | map es => simp [Ob.er] at he
  | loop l' r' ds => simp only [Ob.er, Ob.loop.injEq] at he; obtain ⟨rfl, rfl, rfl⟩ := he; exact ⟨ds, ho, rfl⟩

/-- A round, out of its body. -/
theorem AY.of_body {E : Env} (hrnd : E.rnd = true) {l i : Nat} {r : Loop} {cs args : List A} {H : Heap} {Q : A → Heap → Prop}
    (hi : H[i]? = some (.loop l r cs)) (hn : E.n = cs.length) (hst : r.state = .ready) (hps : args.length = r.params.size) (hfl : cs.all flagless = true)
    (h : AW E r.assign (thenQ (fun st1 => st1.H[i]? = some (.loop l r cs) ∧ AW E r.body (rndQ i l Q) ⟨st1.σ, st1.H.set i (.loop l { r with state := .busy } cs)⟩) (fun _ _ => False))
      ⟨fun t => (setL r.params.toList args cs).getD t (.undef ()), H⟩) : AY E.P l args H Q := by
  intro fr g as Hs w hR h1 h2
  obtain ⟨ds, hHi, rfl⟩ := getLoop h2 hi
  obtain ⟨i1, ⟨hl, i2, i3⟩, i4, i5⟩ := hR.hmem i _ hHi
  rw [hl] at i2
  have hal : as.length = args.length := by rw [← h1, List.length_map]
  rw [run_yield i2 (by simp [hal, hps])]
  simp only
  refine roundIn_of_wpIn trivial ?_
  let frR : Fr := { fr with rd := some l, ds := [] }
  have hR0 : Rel frR g as Hs w := Rel.frds.2 hR
  have hdsfl : flL ds = [] := by
    rw [flL_flatMap, List.flatMap_eq_nil_iff]
    intro v hv
    simp only [List.all_map, List.all_eq_true, Function.comp_apply, er_flagless] at hfl
    exact fl_nil (hfl v hv)
  have hilt := (List.getElem?_eq_some_iff.1 hHi).1
  have hR1 : Rel frR g (setL r.params.toList as ds) Hs w := by
    refine hR0.weaken ?_ ?_ (fun b => by have := setL_count b r.params.toList as ds; rw [hdsfl] at this; simpa using this)
    · intro v hv
      rcases setL_mem _ _ _ hv with hv | hv
      · exact hR.mem v hv
      · exact (i1 v hv).1
    · intro v hv
      rcases setL_mem _ _ _ hv with hv | hv
      · exact hR.low v hv
      · exact low_mono (i1 v hv).2 (by omega)
  have htm : (r.params.zip (as.map (V.conc g.φ)).toArray).foldl (fun tmps (t, a) => tmps.setIfInBounds t a) r.tmps = ((setL r.params.toList as ds).map (V.conc g.φ)).toArray := by
    rw [i3, ← Array.foldl_toList, Array.toList_zip, setL_map, ← setL_array]
  have hA1 : At frR E.n g.φ ⟨fun t => (setL r.params.toList args (ds.map V.er)).getD t (.undef ()), H⟩ (setL r.params.toList as ds) Hs
      { tmps := (r.params.zip (as.map (V.conc g.φ)).toArray).foldl (fun tmps (t, a) => tmps.setIfInBounds t a) r.tmps, defers := [] } := by
    refine ⟨?_, htm, ?_, h2, rfl⟩
    · rw [setL_length, hn, List.length_map]
    · intro t
      show (setL r.params.toList args (ds.map V.er)).getD t (.undef ()) = ((setL r.params.toList as ds).getD t ud).er
      rw [← h1, ← setL_map]
      simp only [List.getD_eq_getElem?_getD, List.getElem?_map]
      cases (setL r.params.toList as ds)[t]? <;> rfl
  refine Code.wpIn_mono ?_ (h frR g _ Hs _ w (by simp [hrnd]) hR1 hA1)
  rintro e a1 w1 ⟨fr1, hx1, x, st1, g1, vs1, Hs1, rfl, k1, k2, k3⟩
  cases x with
  | normal =>
    obtain ⟨m1, m2⟩ := k3
    obtain ⟨ds1, hH1, hds1⟩ := getLoop k2.H m1
    obtain ⟨_, ⟨hl1, j2, j3⟩, _, _⟩ := k1.hmem i _ hH1
    rw [hl1] at j2
    refine ⟨_, run_beginRound j2 hst, ?_⟩
    have n1 := k1.setLoop (r' := { r with state := .busy }) hH1 rfl
    have n2 : At fr1 E.n g1.φ ⟨st1.σ, st1.H.set i (.loop l { r with state := .busy } (ds.map V.er))⟩ vs1 (Hs1.set i (.loop l { r with state := .busy } ds1)) a1 := by
      refine ⟨k2.len, k2.tm, k2.σ, ?_, k2.df⟩
      rw [List.map_set, k2.H, hds1]; rfl
    have hb := m2 fr1 g1 vs1 _ a1 _ (by simp [hrnd]) n1 n2
    rw [hx1.rd] at hb
    refine Code.wpIn_mono ?_ hb
    rintro e a2 w2 ⟨fr2, hx2, x, st2, g2, vs2, Hs2, rfl, q1, q2, r2, cs2, q3, q4⟩
    obtain ⟨ds2, hH2, rfl⟩ := getLoop q2.H q3
    obtain ⟨_, ⟨hl2, p2, p3⟩, _, _⟩ := q1.hmem i _ hH2
    rw [hl2] at p2
    have hfin : ∃ v w', (Go.Instr.endRound l x.jump).run E.P w2 = .ok v w' ∧ CPost fr Q (.returned v) w' := by
      refine ⟨_, _, run_endRound x.jump p2, g2, .bool x.jump.isNone, Hs2.set i (.loop l { r2 with state := if x.jump.isNone then .ready else .done, pending := x.jump } ds2), rfl, ?_, ?_⟩
      rotate_left
      · rw [List.map_set, q2.H]; exact q4
      · have s1 := q1.setLoop (r' := { r2 with state := if x.jump.isNone then .ready else .done, pending := x.jump }) hH2 rfl
        have s2 : Rel fr g2 vs2 _ _ := Rel.frds.1 (hx1.rel (hx2.rel s1))
        exact (s2.sub (us := []) (by simp) (by simp [flL])).cons (by simp [Mem]) rfl rfl
    cases x with
    | normal => exact hfin
    | exit id => exact hfin
    | goto t => exact hfin
    | ret => exact hfin
  | exit id => exact k3.elim
  | goto l => exact k3.elim
  | ret => exact k3.elim
end Go.Ab
end
