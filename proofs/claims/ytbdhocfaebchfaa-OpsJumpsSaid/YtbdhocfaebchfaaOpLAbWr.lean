/- Abstract values and rules for them, proved sound over the model. -/
import Derived.Test.YtbdhocfaebchfaaOpLAbSet
set_option linter.all false
set_option linter.unusedSimpArgs false
set_option linter.unusedVariables false
set_option linter.unnecessarySimpa false
section
/- An element of one's own slice is written. -/
namespace Go.Ab
open V
variable [Glob]
set_option linter.unusedSimpArgs false
set_option linter.unusedVariables false
set_option linter.unusedSectionVars false

section
variable {E : Env} {fr : Fr} {g : Ghost} {vs : List (V D)} {H : List (Ob D)} {w : World}

theorem putRange_get {α : Type} (cs vs : List α) (o : Nat) (h : o + vs.length ≤ cs.length) (i : Nat) : (putRange cs o vs)[i]? = if o ≤ i ∧ i < o + vs.length then vs[i - o]? else cs[i]? := by
  unfold putRange
  have ht : (cs.take o).length = o := by simp; omega
  by_cases h1 : i < o
  · rw [List.append_assoc, List.getElem?_append_left (by omega), if_neg (by omega), List.getElem?_take, if_pos h1]
  · by_cases h2 : i < o + vs.length
    · rw [List.append_assoc, List.getElem?_append_right (by omega), List.getElem?_append_left (by omega), if_pos (by omega), ht]
    · rw [List.getElem?_append_right (by simp; omega), if_neg (by omega), List.getElem?_drop]
      congr 1
      simp; omega

/-- A part of an element of an array of one's own is written. -/
theorem writeSlice {xs part : List (V D)} {k i off : Nat} {x y : V D} {d : D} {b o : Nat} (h : Rel fr g (.sl xs (some k) d :: (part ++ vs)) H w) (ha : d.a = some (b, o)) (hx : xs[i]? = some x) (hk : k ≤ i)
    (hoff : off + part.length ≤ d.es) (hy : y.cells = putRange x.cells off part) (hf : ∀ c ∈ part, c.flagless = true) (h1 : ∀ c ∈ part, solid c = true) (hyf : ∀ v ∈ y.fl, v ∈ x.fl) (hyc : ∀ v, y.fl.count v ≤ x.fl.count v)
    (hym : ∀ g' w', (∀ c ∈ y.cells, Mem g' w' c) → Mem g' w' y) (hyl : (∀ c ∈ y.cells, c.low H.length = true) → y.low H.length = true) (hxm : ∀ c ∈ x.cells, Mem g w c ∧ ∀ v ∈ c.fl, v ∈ x.fl) :
    ∃ c ty fz, w.heap[b]? = some (.cells c ty fz) ∧ FzOk c fz ∧ o + (i * d.es + off) + part.length ≤ c.size ∧
      Rel fr g (.sl (xs.set i y) (some k) d :: vs) H (setW w b (.cells (setRange c (o + (i * d.es + off)) (part.map (V.conc g.φ))) ty fz)) := by
  have hm := h.mem (.sl xs (some k) d) (by simp)
  simp only [Mem, MemL_all] at hm
  obtain ⟨hm1, hUx, hes, hc, hs⟩ := hm
  rw [ha] at hs
  simp only at hs
  obtain ⟨hca, hkl, ho0, hFb, hemp, c, ty, fz, hheap, hfz, hsize⟩ := hs
  have hi := (List.getElem?_eq_some_iff.1 hx).1
  have hxe := (List.getElem?_eq_some_iff.1 hx).2
  have hxU : x.cells.length = d.es := Uni_get hUx (List.mem_of_getElem? hx)
  have hyU : y.cells.length = d.es := by rw [hy, putRange_length (by omega), hxU]
  have hfx : (flat xs).length = xs.length * d.es := flat_length hUx
  have hie : i * d.es + d.es ≤ xs.length * d.es := by rw [← Nat.succ_mul]; exact Nat.mul_le_mul_right _ hi
  have hmul : xs.length * d.es ≤ d.cap * d.es := Nat.mul_le_mul_right _ hc
  have hfit : o + (i * d.es + off) + part.length ≤ c.size := by omega
  refine ⟨c, ty, fz, hheap, hfz, hfit, ?_⟩
  have hblt := (Array.getElem?_eq_some_iff.1 hheap).1
  let w' := setW w b (.cells (setRange c (o + (i * d.es + off)) (part.map (V.conc g.φ))) ty fz)
  have hw' : w'.heap[b]? = some (.cells (setRange c (o + (i * d.es + off)) (part.map (V.conc g.φ))) ty fz) := setW_same hblt
  have hw : ∀ x, x ≠ b → w'.heap[x]? = w.heap[x]? := fun x hx => setW_other hx
  have hbm : b ∈ flL (.sl xs (some k) d :: (part ++ vs)) := by simp [flL, fl, ha]
  have hbo := h.own b (.inl hbm)
  have hkes : k * d.es ≤ i * d.es := Nat.mul_le_mul_right _ hk
  have hcell : ∀ x i, i < g.F x → w'.cell? ⟨x, i, none⟩ = w.cell? ⟨x, i, none⟩ := by
    intro x j hj
    by_cases hx : x = b
    · subst hx
      rw [heap_cells hw', heap_cells hheap, setRange_get _ _ _ (by simpa using hfit), if_neg (by rw [hFb] at hj; omega)]
    · exact cell_of_heap (hw x hx) j
  have hcnt := h.uniq b
  simp only [flL, fl, ha, Option.isSome_some, if_true, Option.map_some, Option.toList_some, List.count_append, List.count_cons, List.count_nil, beq_self_eq_true, flL_append] at hcnt
  have hMo : ∀ (v : V D) n, (∀ x ∈ v.fl, x ≠ b) → v.low n = true → Mem g w v → Mem g w' v := fun v n hx hl hm =>
    Mem_step (g := g) (g' := g) (fun _ => Nat.le_refl _) hcell (n := n) (fun _ _ => rfl) v (fun x hxv => ⟨hw x (hx x hxv), rfl⟩) hl hm
  have hnx : ∀ v ∈ xs ++ part ++ vs, ∀ x ∈ v.fl, x ≠ b := by
    intro v hv x hx e
    subst e
    have : 0 < (flL xs).count x + (flL part).count x + (flL vs).count x := by
      simp only [List.mem_append] at hv
      rcases hv with (hv | hv) | hv
      · have := List.count_pos_iff.2 (flL_mem.2 ⟨v, hv, hx⟩); omega
      · have := List.count_pos_iff.2 (flL_mem.2 ⟨v, hv, hx⟩); omega
      · have := List.count_pos_iff.2 (flL_mem.2 ⟨v, hv, hx⟩); omega
    omega
  have hlow : ∀ v ∈ xs ++ part ++ vs, v.low H.length = true := by
    intro v hv
    simp only [List.mem_append] at hv
    have hl0 := h.low (.sl xs (some k) d) (by simp)
    simp only [V.low, lowL_all, List.all_eq_true] at hl0
    rcases hv with (hv | hv) | hv
    · exact hl0 v hv
    · exact h.low v (by simp [hv])
    · exact h.low v (by simp [hv])
  have hmem : ∀ v ∈ xs ++ part ++ vs, Mem g w' v := by
    intro v hv
    refine hMo v _ (hnx v hv) (hlow v hv) ?_
    simp only [List.mem_append] at hv
    rcases hv with (hv | hv) | hv
    · exact hm1 v hv
    · exact h.mem v (by simp [hv])
    · exact h.mem v (by simp [hv])
  have hxin : x ∈ xs := List.mem_of_getElem? hx
  -- the cells of the new element
  have hycell : ∀ (r : Nat) e, y.cells[r]? = some e → (e ∈ part ∧ off ≤ r ∧ r < off + part.length ∧ part[r - off]? = some e) ∨ (e ∈ x.cells ∧ ¬ (off ≤ r ∧ r < off + part.length) ∧ x.cells[r]? = some e) := by
    intro r e he
    rw [hy, putRange_get _ _ _ (by omega)] at he
    split at he
    · rename_i c1; exact .inl ⟨List.mem_of_getElem? he, c1.1, c1.2, he⟩
    · rename_i c1; exact .inr ⟨List.mem_of_getElem? he, c1, he⟩
  have hymem : Mem g w' y := by
    refine hym g w' fun e he => ?_
    obtain ⟨r, hr⟩ := List.getElem?_of_mem he
    rcases hycell r e hr with ⟨k1, _⟩ | ⟨k1, _⟩
    · exact hmem e (by simp [k1])
    · refine hMo e _ (fun v hv => hnx x (by simp [hxin]) v ((hxm e k1).2 v hv)) (low_cells (hlow x (by simp [hxin])) k1) (hxm e k1).1
  have hylow : y.low H.length = true := by
    refine hyl fun e he => ?_
    obtain ⟨r, hr⟩ := List.getElem?_of_mem he
    rcases hycell r e hr with ⟨k1, _⟩ | ⟨k1, _⟩
    · exact hlow e (by simp [k1])
    · exact low_cells (hlow x (by simp [hxin])) k1
  have hUs : Uni d.es (xs.set i y) = true := Uni_set hUx hyU
  refine { h with mem := ?_, low := ?_, hmem := ?_, uniq := ?_, own := ?_, frX := ?_, frC := ?_, frS := ?_, new := ?_ }
  · intro v hv
    rcases List.mem_cons.1 hv with rfl | hv
    · simp only [Mem, MemL_all]
      refine ⟨fun z hz => ?_, hUs, hes, by simpa using hc, ?_⟩
      · rcases List.mem_or_eq_of_mem_set hz with hz | rfl
        · exact hmem z (by simp [hz])
        · exact hymem
      · rw [ha]
        simp only
        refine ⟨?_, by simpa using hkl, ho0, hFb, ?_, _, ty, fz, hw', by unfold FzOk at hfz ⊢; rw [setRange_size]; exact hfz, by rw [setRange_size]; exact hsize⟩
        · intro j e hj
          have hjl : j < (xs.set i y).length * d.es := by rw [← flat_length hUs]; exact (List.getElem?_eq_some_iff.1 hj).1
          rw [List.length_set] at hjl
          have hq : j / d.es < xs.length := (Nat.div_lt_iff_lt_mul hes).2 hjl
          have hr := Nat.mod_lt j hes
          have hjq : j = j / d.es * d.es + j % d.es := by rw [Nat.mul_comm]; exact (Nat.div_add_mod j _).symm
          rw [heap_cells hw', setRange_get _ _ _ (by simpa using hfit)]
          simp only [List.length_map]
          by_cases hqi : j / d.es = i
          · have hsi : (xs.set i y)[j / d.es]? = some y := by rw [hqi, List.getElem?_set_self hi]
            have hg := flat_get hUs hsi hr
            rw [← hjq, hj] at hg
            rw [hqi] at hjq
            rcases hycell _ e hg.symm with ⟨k1, k2, k3, k4⟩ | ⟨k1, k2, k3⟩
            · rw [if_pos (by omega), show o + j - (o + (i * d.es + off)) = j % d.es - off by omega, List.getElem?_map, k4]
              exact ⟨h1 e k1, rfl⟩
            · have hgx := flat_get hUx hx hr
              rw [← hjq, k3] at hgx
              obtain ⟨a1, a2⟩ := hca j e hgx
              rw [heap_cells hheap] at a2
              rw [if_neg (by omega)]
              exact ⟨a1, a2⟩
          · have hxq : xs[j / d.es]? = some xs[j / d.es] := List.getElem?_eq_getElem hq
            have hsq : (xs.set i y)[j / d.es]? = some xs[j / d.es] := by rw [List.getElem?_set_ne (fun e => hqi e.symm), hxq]
            have hg := flat_get hUs hsq hr
            have hg2 := flat_get hUx hxq hr
            rw [← hjq] at hg hg2
            rw [hj] at hg
            rw [← hg] at hg2
            obtain ⟨a1, a2⟩ := hca j e hg2
            rw [heap_cells hheap] at a2
            have hout : ¬ (o + (i * d.es + off) ≤ o + j ∧ o + j < o + (i * d.es + off) + part.length) := by
              rintro ⟨c1, c2⟩
              apply hqi
              have e1 : i * d.es ≤ j := by omega
              have e2 : j < i * d.es + d.es := by omega
              exact (Nat.div_eq_of_lt_le (by omega) (by rw [Nat.succ_mul]; omega))
            rw [if_neg hout]
            exact ⟨a1, a2⟩
        · intro he
          have : xs = [] := by
            have : (xs.set i y).length = 0 := by rw [he]; rfl
            rw [List.length_set] at this
            exact List.eq_nil_of_length_eq_zero this
          exact hemp this
    · exact hmem v (by simp [hv])
  · intro v hv
    rcases List.mem_cons.1 hv with rfl | hv
    · simp only [V.low, lowL_all, List.all_eq_true]
      intro z hz
      rcases List.mem_or_eq_of_mem_set hz with hz | rfl
      · exact hlow z (by simp [hz])
      · exact hylow
    · exact h.low v (by simp [hv])
  · intro j ob hio
    obtain ⟨h1, h2, h3, h4⟩ := h.hmem j ob hio
    have hi := (List.getElem?_eq_some_iff.1 hio).1
    have hne : g.φ j ≠ b := hbo.2 j hi
    refine ⟨fun c hc => ⟨hMo c j (fun x hx e => ?_) (h1 c hc).2 (h1 c hc).1, (h1 c hc).2⟩, ?_, h3, h4⟩
    · subst e
      have := List.count_pos_iff.2 (show x ∈ flH H from flL_mem.2 ⟨c, List.mem_flatMap.2 ⟨ob, List.mem_of_getElem? hio, hc⟩, hx⟩)
      omega
    · cases ob with
      | cells cs => obtain ⟨a1, ty', rr, ff, a2⟩ := h2; exact ⟨a1, ty', rr, ff, by rw [hw _ hne]; exact a2⟩
      | map es => obtain ⟨en, ck, a2, a3⟩ := h2; exact ⟨en, ck, by rw [hw _ hne]; exact a2, a3⟩
      | loop l r cs => obtain ⟨a1, a2, a3⟩ := h2; exact ⟨a1, by rw [hw _ hne]; exact a2, a3⟩
  · intro v
    have h2 := h.uniq v
    have h3 := count_set v y x xs i hx
    have h4 := hyc v
    simp only [flL, fl, flL_append, List.count_append] at h2 ⊢
    omega
  · intro v hv
    refine h.own v (hv.imp (fun hv => ?_) id)
    simp only [flL, fl, flL_append, List.mem_append] at hv ⊢
    rcases hv with (hv | hv) | hv
    · exact .inl (.inl hv)
    · obtain ⟨z, hz, hvz⟩ := flL_mem.1 hv
      rcases List.mem_or_eq_of_mem_set hz with hz | rfl
      · exact .inl (.inr (flL_mem.2 ⟨z, hz, hvz⟩))
      · exact .inl (.inr (flL_mem.2 ⟨x, hxin, hyf v hvz⟩))
    · exact .inr (.inr hv)
  · intro x hx
    obtain ⟨h1, h2, h3⟩ := h.frX x hx
    exact ⟨by rw [hw x fun e => hbo.1 (e ▸ hx)]; exact h1, h2, h3⟩
  · intro x i hi
    rw [hcell x i (Nat.lt_of_lt_of_le hi (h.frF x))]; exact h.frC x i hi
  · obtain ⟨h1, h2, h3, h4⟩ := h.frS
    exact ⟨by show _ ≤ (setW w _ _).heap.size; rw [setW_size]; exact h1, h2, h3, h4⟩
  · intro x hx
    exact h.new x (by have : (setW w b _).heap.size ≤ x := hx; rw [setW_size] at this; exact this)

/-- A value and a cell of a boxed object change places, where the memory does not tell them apart. -/
theorem heapSwap {v c : V D} {i j : Nat} {ds : List (V D)} (h : Rel fr g (v :: vs) H w) (hi : H[i]? = some (.cells ds)) (hj : ds[j]? = some c) (hraw : V.conc g.φ v = V.conc g.φ c) (hone : v.one = true) (hlow : v.low i = true) :
    Rel fr g (c :: vs) (H.set i (.cells (ds.set j v))) w := by
  obtain ⟨hm, ⟨hones, ty, rest, fz, hheap, hfz⟩, hF0, hX⟩ := h.hmem _ _ hi
  simp only [Ob.vals] at hm
  have hcin : c ∈ ds := List.mem_of_getElem? hj
  have hilt := (List.getElem?_eq_some_iff.1 hi).1
  have hcount : ∀ b, (flH (H.set i (.cells (ds.set j v)))).count b + c.fl.count b = (flH H).count b + v.fl.count b := by
    intro b
    have h1 := count_setH b (.cells ds) (.cells (ds.set j v)) H i hi
    have h2 := count_set b v c ds j hj
    simp only [Ob.vals] at h1
    omega
  refine { h with mem := ?_, low := ?_, hmem := ?_, inj := ?_, uniq := ?_, own := ?_, frφ := ?_ }
  · intro x hx
    rcases List.mem_cons.1 hx with rfl | hx
    · exact (hm _ hcin).1
    · exact h.mem x (by simp [hx])
  · intro x hx
    rw [List.length_set]
    rcases List.mem_cons.1 hx with rfl | hx
    · exact low_mono (hm _ hcin).2 (by omega)
    · exact h.low x (by simp [hx])
  · intro k o ho
    rw [List.getElem?_set] at ho
    split at ho
    · rename_i hk
      subst hk
      simp only [hilt, if_true, Option.some.injEq] at ho
      subst ho
      have heq : (ds.set j v).map (V.conc g.φ) = ds.map (V.conc g.φ) := by
        rw [List.map_set, hraw]
        apply List.ext_getElem?
        intro r
        rw [List.getElem?_set]
        split
        · rename_i hr
          subst hr
          have hjl := (List.getElem?_eq_some_iff.1 hj).1
          rw [List.getElem?_map, hj]
          simp [hjl]
        · rfl
      refine ⟨?_, ⟨?_, ty, rest, fz, by rw [heq]; exact hheap, by rw [heq]; exact hfz⟩, hF0, hX⟩
      · intro e he
        simp only [Ob.vals] at he
        rcases List.mem_or_eq_of_mem_set he with he | rfl
        · exact hm e he
        · exact ⟨h.mem _ (by simp), hlow⟩
      · intro e he
        rcases List.mem_or_eq_of_mem_set he with he | rfl
        · exact hones e he
        · exact hone
    · exact h.hmem k o ho
  · intro a b ha hb; rw [List.length_set] at ha hb; exact h.inj a b ha hb
  · intro b
    have h1 := h.uniq b
    have h2 := hcount b
    simp only [flL, List.count_append] at h1 ⊢
    omega
  · intro b hb
    rw [List.length_set]
    refine h.own b ?_
    have h2 := hcount b
    have hpos : 0 < (flL (c :: vs)).count b + (flH (H.set i (.cells (ds.set j v)))).count b := by
      rcases hb with hb | hb
      · have := List.count_pos_iff.2 hb; omega
      · have := List.count_pos_iff.2 hb; omega
    simp only [flL, List.count_append] at hpos
    by_cases h3 : 0 < (flL (v :: vs)).count b
    · exact .inl (List.count_pos_iff.1 h3)
    · refine .inr (List.count_pos_iff.1 ?_)
      simp only [flL, List.count_append] at h3
      omega
  · rw [List.length_set]; exact h.frφ
end
end Go.Ab
end
