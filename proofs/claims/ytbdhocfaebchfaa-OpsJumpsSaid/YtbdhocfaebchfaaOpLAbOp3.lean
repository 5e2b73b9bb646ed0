/- Abstract values and rules for them, proved sound over the model. -/
import Derived.Test.YtbdhocfaebchfaaOpLAbOp2
set_option linter.all false
set_option linter.unusedSimpArgs false
set_option linter.unusedVariables false
set_option linter.unnecessarySimpa false
section
/- New blocks; stores. -/
namespace Go.Ab
open V
variable [Glob]
set_option linter.unusedSimpArgs false
set_option linter.unusedVariables false
set_option linter.unusedSectionVars false

/-- A world with one block more. -/
def pushW (w : World) (o : Obj) : World := { w with heap := w.heap.push o }
theorem push_old {w : World} {o : Obj} {b : Nat} (h : b < w.heap.size) : (pushW w o).heap[b]? = w.heap[b]? := by
  simp only [pushW, Array.getElem?_push]; rw [if_neg (by omega)]
theorem push_new (w : World) (o : Obj) : (pushW w o).heap[w.heap.size]? = some o := by
  show (w.heap.push o)[w.heap.size]? = some o
  rw [Array.getElem?_push, if_pos rfl]
theorem push_size (w : World) (o : Obj) : (pushW w o).heap.size = w.heap.size + 1 := by
  show (w.heap.push o).size = _
  rw [Array.size_push]

namespace Rel
variable {fr : Fr} {g : Ghost} {vs us : List (V D)} {H : List (Ob D)} {w w' : World}

theorem F_lt (h : Rel fr g vs H w) {b i : Nat} (hi : i < g.F b) : b < w.heap.size := by
  rcases Nat.lt_or_ge b w.heap.size with hb | hb
  · exact hb
  · rw [h.new b hb] at hi; omega
theorem φ_lt (h : Rel fr g vs H w) {i : Nat} (hi : i < H.length) : g.φ i < w.heap.size := by
  obtain ⟨_, h2, _⟩ := h.hmem i H[i] (by simp [hi])
  cases hH : H[i] with
  | cells cs => rw [hH] at h2; obtain ⟨_, ty, _, _, h2, _⟩ := h2; exact (Array.getElem?_eq_some_iff.1 h2).1
  | map es => rw [hH] at h2; obtain ⟨_, _, h2, _⟩ := h2; exact (Array.getElem?_eq_some_iff.1 h2).1
  | loop l r cs => rw [hH] at h2; obtain ⟨_, h2, _⟩ := h2; exact (Array.getElem?_eq_some_iff.1 h2).1

/-- The world is written at blocks that nothing here speaks of. -/
theorem world (h : Rel fr g vs H w) (hs : w.heap.size ≤ w'.heap.size) (ho : w'.os = w.os ∧ w'.tape = w.tape ∧ w'.output = w.output)
    (hfl : ∀ b, b ∈ flL vs ∨ b ∈ flH H → w'.heap[b]? = w.heap[b]?) (hφ : ∀ i, i < H.length → w'.heap[g.φ i]? = w.heap[g.φ i]?)
    (hc : ∀ b i, i < g.F b → w'.cell? ⟨b, i, none⟩ = w.cell? ⟨b, i, none⟩) (hX : ∀ b, fr.X b → w'.heap[b]? = w.heap[b]?)
    : Rel fr g vs H w' := by
  have hM : ∀ (v : V D) n, (∀ b ∈ v.fl, b ∈ flL vs ∨ b ∈ flH H) → v.low n = true → Mem g w v → Mem g w' v := fun v n hb hl hm =>
    Mem_step (g := g) (g' := g) (fun _ => Nat.le_refl _) hc (n := n) (fun _ _ => rfl) v (fun b hbv => ⟨hfl b (hb b hbv), rfl⟩) hl hm
  refine { h with mem := ?_, hmem := ?_, frX := ?_, frC := ?_, frS := ?_, new := ?_ }
  · exact fun v hv => hM v H.length (fun b hb => .inl (flL_mem.2 ⟨v, hv, hb⟩)) (h.low v hv) (h.mem v hv)
  · intro i o hio
    obtain ⟨h1, h2, h3, h4⟩ := h.hmem i o hio
    refine ⟨fun c hcv => ⟨hM c i (fun b hb => .inr (flL_mem.2 ⟨c, List.mem_flatMap.2 ⟨o, List.mem_of_getElem? hio, hcv⟩, hb⟩)) (h1 c hcv).2 (h1 c hcv).1, (h1 c hcv).2⟩, ?_, h3, h4⟩
    have := hφ i (List.getElem?_eq_some_iff.1 hio).1
    cases o with
    | cells cs => obtain ⟨a1, ty, rr, ff, a2⟩ := h2; exact ⟨a1, ty, rr, ff, by rw [this]; exact a2⟩
    | map es => obtain ⟨en, ck, a2, a3⟩ := h2; exact ⟨en, ck, by rw [this]; exact a2, a3⟩
    | loop l r cs => obtain ⟨a1, a2, a3⟩ := h2; exact ⟨a1, by rw [this]; exact a2, a3⟩
  · intro b hb
    obtain ⟨h1, h2, h3⟩ := h.frX b hb
    exact ⟨(hX b hb).trans h1, h2, h3⟩
  · intro b i hi
    rw [hc b i (Nat.lt_of_lt_of_le hi (h.frF b))]; exact h.frC b i hi
  · obtain ⟨h1, h2, h3, h4⟩ := h.frS
    exact ⟨Nat.le_trans h1 hs, ho.1.trans h2, ho.2.1.trans h3, ho.2.2.trans h4⟩
  · exact fun b hb => h.new b (by omega)

theorem push (h : Rel fr g vs H w) (o : Obj) : Rel fr g vs H (pushW w o) :=
  h.world (by rw [push_size]; omega) ⟨rfl, rfl, rfl⟩ (fun b hb => push_old (h.blk_lt hb)) (fun i hi => push_old (h.φ_lt hi))
    (fun b i hi => cell_of_heap (push_old (h.F_lt hi)) i) (fun b hb => push_old (by have := (h.frX b hb).2.2; have := h.frS.1; omega))

/-- Where objects that are not there would lie does not matter. -/
theorem rephi {φ : Nat → Nat} (h : Rel fr g vs H w) (hφ : ∀ i, i < H.length → φ i = g.φ i) : Rel fr ⟨φ, g.F⟩ vs H w := by
  have hM : ∀ (v : V D) n, n ≤ H.length → v.low n = true → Mem g w v → Mem ⟨φ, g.F⟩ w v := fun v n hn hl hm =>
    Mem_step (g := g) (g' := ⟨φ, g.F⟩) (fun _ => Nat.le_refl _) (fun _ _ _ => rfl) (n := n) (fun i hi => hφ i (by omega)) v (fun _ _ => ⟨rfl, rfl⟩) hl hm
  refine { h with mem := fun v hv => hM v _ (Nat.le_refl _) (h.low v hv) (h.mem v hv), hmem := ?_, inj := ?_, own := ?_, frφ := ?_ }
  · intro i o hio
    obtain ⟨h1, h2, h3, h4⟩ := h.hmem i o hio
    have hi := (List.getElem?_eq_some_iff.1 hio).1
    refine ⟨fun c hc => ⟨hM c i (by omega) (h1 c hc).2 (h1 c hc).1, (h1 c hc).2⟩, ?_, by show g.F (φ i) = 0; rw [hφ i hi]; exact h3, by show ¬ fr.X (φ i); rw [hφ i hi]; exact h4⟩
    have hcc : ∀ c ∈ o.vals, V.conc φ c = V.conc g.φ c := fun c hc => conc_congr (n := i) (fun j hj => hφ j (by omega)) c (h1 c hc).2
    show ObOk φ w (φ i) o
    rw [hφ i hi]
    cases o with
    | cells cs => obtain ⟨a1, ty, rr, ff, a2⟩ := h2; exact ⟨a1, ty, rr, ff, by rw [show cs.map (V.conc φ) = cs.map (V.conc g.φ) from List.map_congr_left fun c hc => hcc c hc]; exact a2⟩
    | map es =>
      obtain ⟨en, ck, a2, a3⟩ := h2
      refine ⟨en, ck, a2, a3.trans (List.map_congr_left fun p hp => ?_)⟩
      rw [hcc p.1 (List.mem_flatMap.2 ⟨p, hp, by simp⟩), hcc p.2 (List.mem_flatMap.2 ⟨p, hp, by simp⟩)]
    | loop l r cs => obtain ⟨a1, a2, a3⟩ := h2; exact ⟨a1, a2, by rw [show cs.map (V.conc φ) = cs.map (V.conc g.φ) from List.map_congr_left fun c hc => hcc c hc]; exact a3⟩
  · intro i j hi hj he
    simp only [hφ i hi, hφ j hj] at he
    exact h.inj i j hi hj he
  · intro b hb
    have := h.own b hb
    exact ⟨this.1, fun i hi => by simp only [hφ i hi]; exact this.2 i hi⟩
  · exact ⟨h.frφ.1, fun i hi => (hφ i (by have := h.frφ.1; omega)).trans (h.frφ.2 i hi)⟩

/-- Other values, of the same rights. -/
theorem weaken (h : Rel fr g vs H w) (hm : ∀ v ∈ us, Mem g w v) (hl : ∀ v ∈ us, v.low H.length = true) (hc : ∀ b, (flL us).count b ≤ (flL vs).count b) : Rel fr g us H w :=
  h.reghost (F := g.F) (fun _ => Nat.le_refl _) (fun _ _ _ => rfl) hm hl rfl (fun i o ho => ⟨(h.hmem i o ho).1, (h.hmem i o ho).2.1⟩) (fun b => Nat.add_le_add_right (hc b) _)

theorem spread {v : V D} (h : Rel fr g (v :: vs) H w) : Rel fr g (v.cells ++ vs) H w := by
  have hv := h.mem v (by simp)
  have hlv := h.low v (by simp)
  have hcells : flL v.cells = v.fl := by cases v <;> simp [V.cells, fl, flL]
  refine h.weaken ?_ ?_ (fun b => by simp only [flL_append, flL, hcells]; exact Nat.le_refl _)
  · intro c hc
    rcases List.mem_append.1 hc with hc | hc
    · cases v <;> simp_all [V.cells, Mem, MemL_all]
    · exact h.mem c (by simp [hc])
  · intro c hc
    rcases List.mem_append.1 hc with hc | hc
    · exact low_cells hlv hc
    · exact h.low c (by simp [hc])

theorem spreadSl {xs : List (V D)} {own : Option Nat} {d : D} (h : Rel fr g (.sl xs own d :: vs) H w) : Rel fr g (xs ++ vs) H w := by
  have hv := h.mem (.sl xs own d) (by simp)
  have hlv := h.low (.sl xs own d) (by simp)
  simp only [Mem, MemL_all, V.low, lowL_all, List.all_eq_true] at hv hlv
  refine h.weaken ?_ ?_ (fun b => by simp only [flL_append, flL, fl, List.count_append]; omega)
  · intro c hc
    rcases List.mem_append.1 hc with hc | hc
    · exact hv.1 c hc
    · exact h.mem c (by simp [hc])
  · intro c hc
    rcases List.mem_append.1 hc with hc | hc
    · exact hlv c hc
    · exact h.low c (by simp [hc])

/-- A new object. -/
theorem newObj {cs : List (V D)} {ty : TypeId} (h : Rel fr g (cs ++ vs) H w) (h1 : ∀ c ∈ cs, c.one = true) :
    ∃ φ, (∀ i, i < H.length → φ i = g.φ i) ∧ φ H.length = w.heap.size ∧
      Rel fr ⟨φ, g.F⟩ (.ptr (some (H.length, 0)) :: vs) (H ++ [.cells cs]) (pushW w (.cells (cs.map (V.conc g.φ)).toArray ty)) := by
  let φ : Nat → Nat := fun i => if i = H.length then w.heap.size else g.φ i
  have hφ : ∀ i, i < H.length → φ i = g.φ i := fun i hi => by simp only [φ]; rw [if_neg (by omega)]
  have hφn : φ H.length = w.heap.size := by simp [φ]
  have k := (h.push (.cells (cs.map (V.conc g.φ)).toArray ty)).rephi hφ
  refine ⟨φ, hφ, hφn, ?_⟩
  have hlen : (H ++ [Ob.cells cs]).length = H.length + 1 := by simp
  have hflH : flH (H ++ [Ob.cells cs]) = flH H ++ flL cs := by simp [flH, flL_append, vals_cells]
  refine { k with mem := ?_, low := ?_, hmem := ?_, inj := ?_, uniq := ?_, own := ?_, frφ := ?_ }
  · intro v hv
    rcases List.mem_cons.1 hv with rfl | hv
    · simp [Mem]
    · exact k.mem v (by simp [hv])
  · intro v hv
    rcases List.mem_cons.1 hv with rfl | hv
    · simp [V.low]
    · exact low_mono (k.low v (by simp [hv])) (by omega)
  · intro i o hio
    rcases Nat.lt_or_ge i H.length with hi | hi
    · rw [List.getElem?_append_left hi] at hio; exact k.hmem i o hio
    · have : i = H.length := by have := (List.getElem?_eq_some_iff.1 hio).1; omega
      subst this
      simp only [List.getElem?_append_right (Nat.le_refl _), Nat.sub_self, List.getElem?_cons_zero, Option.some.injEq] at hio
      subst hio
      refine ⟨fun c hc => ⟨k.mem c (by rw [vals_cells] at hc; simp [hc]), k.low c (by rw [vals_cells] at hc; simp [hc])⟩, ⟨h1, ty, #[], (0, 0), ?_, .inl (Nat.le_refl _)⟩, ?_, ?_⟩
      · show (pushW w _).heap[φ H.length]? = _
        rw [hφn, push_new, Array.append_empty]
        rw [List.map_congr_left fun c hc => conc_congr (n := H.length) hφ c (h.low c (by simp [hc]))]
      · show g.F (φ H.length) = 0
        rw [hφn]; exact h.new _ (Nat.le_refl _)
      · show ¬ fr.X (φ H.length)
        rw [hφn]; intro hX; have := (h.frX _ hX).2.2; have := h.frS.1; omega
  · intro i j hi hj he
    rw [hlen] at hi hj
    simp only at he
    rcases Nat.lt_or_ge i H.length with hi' | hi'
    · rcases Nat.lt_or_ge j H.length with hj' | hj'
      · rw [hφ i hi', hφ j hj'] at he; exact h.inj i j hi' hj' he
      · have : j = H.length := by omega
        subst this
        rw [hφ i hi', hφn] at he; have := h.φ_lt hi'; omega
    · have : i = H.length := by omega
      subst this
      rcases Nat.lt_or_ge j H.length with hj' | hj'
      · rw [hφ j hj', hφn] at he; have := h.φ_lt hj'; omega
      · omega
  · intro b
    have := h.uniq b
    rw [hflH]
    simp only [flL_append, flL, fl, List.nil_append, List.count_append] at *; omega
  · intro b hb
    have hb' : b ∈ flL (cs ++ vs) ∨ b ∈ flH H := by
      rw [hflH] at hb
      simp only [flL, fl, List.nil_append, List.mem_append, flL_append] at hb ⊢
      rcases hb with hb | hb | hb
      · exact .inl (.inr hb)
      · exact .inr hb
      · exact .inl (.inl hb)
    have h2 := k.own b hb'
    refine ⟨h2.1, fun i hi => ?_⟩
    rw [hlen] at hi
    rcases Nat.lt_or_ge i H.length with hi' | hi'
    · exact h2.2 i hi'
    · have : i = H.length := by omega
      subst this
      show φ H.length ≠ b
      rw [hφn]; have := h.blk_lt hb'; omega
  · rw [hlen]; exact ⟨by have := k.frφ.1; omega, k.frφ.2⟩
end Rel

/-- After a new object the slots are as they were. -/
theorem At.rephi {fr : Fr} {n : Nat} {φ φ' : Nat → Nat} {st : St} {vs : List (V D)} {Hs : List (Ob D)} {a : Act} {N : Nat} (hA : At fr n φ st vs Hs a) (hφ : ∀ i, i < N → φ' i = φ i) (hl : ∀ v ∈ vs, v.low N = true) :
    At fr n φ' st vs Hs a :=
  ⟨hA.len, by rw [hA.tm, List.map_congr_left fun v hv => (conc_congr hφ v (hl v hv)).symm], hA.σ, hA.H, hA.df⟩

section
variable {E : Env} {g : Ghost} {w : World} {fr : Fr} {vs pre : List (V D)} {Hs : List (Ob D)} {st : St} {a : Act} (hE : E.Ok)
include hE

theorem solid_er {v : V D} : solid v.er = solid v := by cases v <;> rfl
theorem solid_cells {v : V D} (h : v.er.cells.all solid = true) : (∀ c ∈ v.cells, c.one = true) ∧ (V.conc g.φ v).cells = (v.cells.map (V.conc g.φ)).toArray ∧ ∀ c ∈ v.cells, solid c = true := by
  rw [er_cells, List.all_map] at h
  simp only [List.all_eq_true, Function.comp_apply, solid_er hE] at h
  refine ⟨fun c hc => solid_one (h c hc), ?_, h⟩
  cases v <;> simp_all [V.cells, V.conc, Value.cells, concL_map, solid]

theorem alloc_sound (hR : Rel fr g vs Hs w) (hA : At fr E.n g.φ st vs Hs a) {t : TypeId} {r : A} {st1 : St}
    (h : allocA E t st = some (r, st1)) : OpOk E fr [] a w r st1 (Go.Instr.alloc t true (.tuple #[])) := by
  unfold allocA at h
  split at h
  · rename_i u hT
    split at h
    · rename_i hs
      simp only [Option.some.injEq, Prod.mk.injEq] at h
      obtain ⟨rfl, rfl⟩ := h
      obtain ⟨i, hi, hsz, hby, hz⟩ := (hE t u hT).info
      obtain ⟨z, hz1, hz2⟩ := Option.bind_eq_some_iff.1 hz
      have hl := ofConst_lift hz2
      have hsc := solid_cells (g := g) hE (v := lift u.zero) (by rw [lift_er]; exact hs)
      have hcons : Rel fr g ((lift u.zero).cells ++ vs) Hs w := by
        have h0 : Rel fr g (lift u.zero :: vs) Hs w := hR.cons (hl.mem _ _) (hl.low _) hl.fl
        exact h0.spread
      obtain ⟨φ, h1, h2, h3⟩ := hcons.newObj (ty := t) hsc.1
      refine ⟨⟨φ, g.F⟩, _, vs, _, _, h3, ⟨hA.len, (hA.rephi h1 hR.low).tm, hA.σ, ?_, hA.df⟩, ?_, ?_⟩
      · simp only [List.map_append, hA.H, List.map_cons, List.map_nil, Ob.er]
        rw [← er_cells, lift_er]
      · rw [← hA.H]; simp [V.er]
      · simp only [Go.Instr.alloc]
        rw [run_bind (show (zeroValue t).run E.P w = .ok z w by simp [zeroValue, typeInfo, program, hi, hz1, Sem.run, Bind.bind, Sem.bind, Pure.pure])]
        simp only [newVar, newRow, newObj]
        have hz3 : z.cells = ((lift u.zero).cells.map (V.conc g.φ)).toArray := by rw [← hsc.2.1, hl.conc]
        simp only [V.conc, Option.map_some, h2, hz3]
        rfl
    · simp at h
  · simp at h
end
end Go.Ab
end
