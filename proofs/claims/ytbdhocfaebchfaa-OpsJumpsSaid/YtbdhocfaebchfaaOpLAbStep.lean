/- Abstract values and rules for them, proved sound over the model. -/
import Derived.Test.YtbdhocfaebchfaaOpLAbMem
set_option linter.all false
set_option linter.unusedSimpArgs false
set_option linter.unusedVariables false
set_option linter.unnecessarySimpa false
section
/- Trees stay as they lie, while others are written; a copy handed out. -/
namespace Go.Ab
open V
set_option linter.unusedSimpArgs false
namespace V
theorem flatMap_congr_mem {α β : Type} {l : List α} {f g : α → List β} (h : ∀ x ∈ l, f x = g x) : l.flatMap f = l.flatMap g := by induction l <;> simp_all

theorem conc_strip (f : Nat → Nat) (v : V D) : conc f v.strip = conc f v := by
  induction v using ind <;> simp_all [conc, strip, concL_map, stripL_map, Function.comp_def]
theorem conc_share (f : Nat → Nat) (v : V D) : conc f v.share = conc f v := by
  induction v using ind with
  | hsl xs own d h => cases own <;> simp_all [conc, share, concL_map, shareL_map]
  | _ => simp_all [conc, share, concL_map, shareL_map, Function.comp_def]
theorem conc_congr {f f' : Nat → Nat} {n : Nat} (h : ∀ i, i < n → f' i = f i) (v : V D) : v.low n = true → conc f' v = conc f v := by
  induction v using ind with
  | hp q => cases q <;> simp_all [conc, low]
  | hm q => cases q <;> simp_all [conc, low]
  | _ => simp_all [conc, low, concL_map, lowL_all, Function.comp_def]

variable {δ : Type}
theorem strip_one (v : V δ) : v.strip.one = v.one := by cases v <;> rfl
theorem share_one (v : V δ) : v.share.one = v.one := by
  cases v with
  | sl xs own d => cases own <;> rfl
  | _ => rfl
theorem strip_solid (v : V δ) : solid v.strip = solid v := by cases v <;> rfl
theorem share_solid (v : V δ) : solid v.share = solid v := by
  cases v with
  | sl xs own d => cases own <;> rfl
  | _ => rfl
theorem strip_cells (v : V δ) : v.strip.cells = v.cells.map strip := by cases v <;> simp [strip, cells, stripL_map]
theorem share_cells (v : V δ) : v.share.cells = v.cells.map share := by
  cases v with
  | sl xs own d => cases own <;> simp [share, cells]
  | _ => simp [share, cells, shareL_map]
theorem strip_flat (xs : List (V δ)) : flat (xs.map strip) = (flat xs).map strip := by induction xs <;> simp_all [flat, strip_cells]
theorem share_flat (xs : List (V δ)) : flat (xs.map share) = (flat xs).map share := by induction xs <;> simp_all [flat, share_cells]
theorem strip_Uni (es : Nat) (xs : List (V δ)) : Uni es (xs.map strip) = Uni es xs := by simp [Uni, List.all_map, Function.comp_def, strip_cells]
theorem share_Uni (es : Nat) (xs : List (V δ)) : Uni es (xs.map share) = Uni es xs := by simp [Uni, List.all_map, Function.comp_def, share_cells]
theorem strip_low (n : Nat) (v : V δ) : v.strip.low n = v.low n := by
  induction v using ind <;> (try simp_all [strip, low, stripL_map, lowL_all, List.all_map, Function.comp_def])
  all_goals
    first | (rw [Bool.eq_iff_iff]; simp only [List.all_eq_true, Bool.and_eq_true]; constructor <;> intro h <;> (try constructor) <;> intros <;> simp_all; done) | (rename_i q; cases q <;> simp [strip, low]; done)
theorem share_low (n : Nat) (v : V δ) : v.share.low n = v.low n := by
  induction v using ind with
  | hsl xs own d h =>
    cases own <;> simp_all [share, low, shareL_map, lowL_all, List.all_map, Function.comp_def]
    rw [Bool.eq_iff_iff]; simp only [List.all_eq_true]; constructor <;> intros <;> simp_all
  | _ =>
    first
    | (simp_all [share, low, shareL_map, lowL_all, List.all_map, Function.comp_def]; done)
    | (simp_all [share, low, shareL_map, lowL_all, List.all_map, Function.comp_def]
       rw [Bool.eq_iff_iff]; simp only [List.all_eq_true, Bool.and_eq_true]; constructor <;> intro h <;> (try constructor) <;> intros <;> simp_all; done)
    | (rename_i q; cases q <;> simp [share, low]; done)
theorem share_fl (v : V D) : v.share.fl = v.fl := by
  induction v using ind with
  | hsl xs own d h =>
    cases own with
    | none => simp [share]
    | some k =>
      simp only [share, fl, flL_flatMap, shareL_map, Option.isSome_some, if_true]
      congr 1
      rw [List.flatMap_map]
      exact flatMap_congr_mem h
  | hfn f a b ha hb => simp only [share, fl, flL_flatMap, shareL_map, List.flatMap_map]; rw [flatMap_congr_mem ha, flatMap_congr_mem hb]
  | hif t v h => simpa [share, fl] using h
  | hagg cs h => simp only [share, fl, flL_flatMap, shareL_map, List.flatMap_map]; exact flatMap_congr_mem h
  | htup cs h => simp only [share, fl, flL_flatMap, shareL_map, List.flatMap_map]; exact flatMap_congr_mem h
  | _ => simp [share]
theorem share_flagless {v : V δ} (h : v.flagless = true) : v.share = v := by
  induction v using ind with
  | hsl xs own d ih => cases own <;> simp_all [flagless, share]
  | hfn f a b ha hb =>
    simp only [flagless, flaglessL_all, Bool.and_eq_true, List.all_eq_true] at h
    simp only [share, shareL_map]; rw [List.map_congr_left (fun x hx => ha x hx (h.1 x hx)), List.map_congr_left (fun x hx => hb x hx (h.2 x hx))]; simp
  | hif t v ih => simp_all [share, flagless]
  | hagg cs ih => simp only [flagless, flaglessL_all, List.all_eq_true] at h; simp only [share, shareL_map]; rw [List.map_congr_left (fun x hx => ih x hx (h x hx))]; simp
  | htup cs ih => simp only [flagless, flaglessL_all, List.all_eq_true] at h; simp only [share, shareL_map]; rw [List.map_congr_left (fun x hx => ih x hx (h x hx))]; simp
  | _ => simp [share]
theorem strip_of_flagless {v : V δ} (h : v.flagless = true) : v.strip = v := by
  induction v using ind with
  | hsl xs own d ih =>
    simp only [flagless, flaglessL_all, Bool.and_eq_true, List.all_eq_true, Option.isNone_iff_eq_none] at h
    simp only [strip, stripL_map]; rw [List.map_congr_left (fun x hx => ih x hx (h.2 x hx)), h.1]; simp
  | hrd cs d ih => simp only [flagless, flaglessL_all, List.all_eq_true] at h; simp only [strip, stripL_map]; rw [List.map_congr_left (fun x hx => ih x hx (h x hx))]; simp
  | hfn f a b ha hb =>
    simp only [flagless, flaglessL_all, Bool.and_eq_true, List.all_eq_true] at h
    simp only [strip, stripL_map]; rw [List.map_congr_left (fun x hx => ha x hx (h.1 x hx)), List.map_congr_left (fun x hx => hb x hx (h.2 x hx))]; simp
  | hif t v ih => simp_all [strip, flagless]
  | hagg cs ih => simp only [flagless, flaglessL_all, List.all_eq_true] at h; simp only [strip, stripL_map]; rw [List.map_congr_left (fun x hx => ih x hx (h x hx))]; simp
  | htup cs ih => simp only [flagless, flaglessL_all, List.all_eq_true] at h; simp only [strip, stripL_map]; rw [List.map_congr_left (fun x hx => ih x hx (h x hx))]; simp
  | _ => simp [strip]
end V

theorem cell_of_heap {w w' : World} {b : Nat} (h : w'.heap[b]? = w.heap[b]?) (i : Nat) : w'.cell? ⟨b, i, none⟩ = w.cell? ⟨b, i, none⟩ := by
  simp [World.cell?, h]

theorem low_cells {δ : Type} {n : Nat} {v c : V δ} (h : v.low n = true) (hc : c ∈ v.cells) : c.low n = true := by
  cases v <;> simp_all [V.cells, V.low, V.lowL_all]
theorem low_flat {δ : Type} {n : Nat} {xs : List (V δ)} (h : ∀ x ∈ xs, x.low n = true) {c : V δ} (hc : c ∈ flat xs) : c.low n = true := by
  simp only [flat, List.mem_flatMap] at hc
  obtain ⟨x, hx, hcx⟩ := hc
  exact low_cells (h x hx) hcx

section
variable {g g' : Ghost} {w w' : World} {n : Nat}

theorem CellsAt.step {b o : Nat} {cs : List (V D)} (hφ : ∀ i, i < n → g'.φ i = g.φ i) (hl : ∀ c ∈ cs, c.low n = true)
    (hc : ∀ j, j < cs.length → w'.cell? ⟨b, o + j, none⟩ = w.cell? ⟨b, o + j, none⟩) (h : CellsAt g.φ w b o cs) : CellsAt g'.φ w' b o cs := by
  intro j c hj
  obtain ⟨h1, h2⟩ := h j c hj
  refine ⟨h1, ?_⟩
  rw [hc j (List.getElem?_eq_some_iff.1 hj).1, conc_congr hφ c (hl c (List.mem_of_getElem? hj))]
  exact h2

theorem Mem_step (hF : ∀ b, g.F b ≤ g'.F b) (hcell : ∀ b i, i < g.F b → w'.cell? ⟨b, i, none⟩ = w.cell? ⟨b, i, none⟩)
    (hφ : ∀ i, i < n → g'.φ i = g.φ i) (v : V D) :
    (∀ b ∈ v.fl, w'.heap[b]? = w.heap[b]? ∧ g'.F b = g.F b) → v.low n = true → Mem g w v → Mem g' w' v := by
  induction v using ind with
  | hsl xs own d ih =>
    intro hk hl hm
    simp only [fl, flL_flatMap, List.mem_append, List.mem_flatMap] at hk
    simp only [low, lowL_all, List.all_eq_true] at hl
    simp only [Mem, MemL_all] at hm ⊢
    obtain ⟨hm, hU, he, hc, hs⟩ := hm
    refine ⟨fun x hx => ih x hx (fun b hb => hk b (.inr ⟨x, hx, hb⟩)) (hl x hx) (hm x hx), hU, he, hc, ?_⟩
    cases hd : d.a with
    | none => rw [hd] at hs; exact hs
    | some p =>
      obtain ⟨b, o⟩ := p
      rw [hd] at hs
      simp only at hs ⊢
      obtain ⟨hca, hs⟩ := hs
      cases own with
      | none =>
        simp only at hs ⊢
        refine ⟨hca.step hφ (fun c hc => low_flat hl hc) (fun j hj => hcell b _ ?_), hs.1, hs.2.imp id fun h => Nat.le_trans h (hF b)⟩
        rw [flat_length hU] at hj
        rcases hs.2 with rfl | h
        · simp at hj
        · omega
      | some k =>
        simp only at hs ⊢
        obtain ⟨hw, hFb⟩ := hk b (.inl (by simp [hd]))
        refine ⟨hca.step hφ (fun c hc => low_flat hl hc) (fun j _ => cell_of_heap hw _), hs.1, hs.2.1, ?_, hs.2.2.2.1, ?_⟩
        · rw [hFb]; exact hs.2.2.1
        · rw [hw]; exact hs.2.2.2.2
  | hrd cs d ih =>
    intro hk hl hm
    simp only [fl, flL_flatMap, List.mem_flatMap] at hk
    simp only [low, lowL_all, List.all_eq_true] at hl
    simp only [Mem, MemL_all] at hm ⊢
    obtain ⟨hm, hfl, b, o, hd, hca, hle⟩ := hm
    exact ⟨fun x hx => ih x hx (fun b hb => hk b ⟨x, hx, hb⟩) (hl x hx) (hm x hx), hfl, b, o, hd,
      hca.step hφ hl (fun j hj => hcell b _ (by omega)), Nat.le_trans hle (hF b)⟩
  | hfn f a b ha hb =>
    intro hk hl hm
    simp only [fl, flL_flatMap, List.mem_append, List.mem_flatMap] at hk
    simp only [low, lowL_all, List.all_eq_true, Bool.and_eq_true] at hl
    simp only [Mem, MemL_all] at hm ⊢
    exact ⟨fun x hx => ha x hx (fun b hb => hk b (.inl ⟨x, hx, hb⟩)) (hl.1 x hx) (hm.1 x hx), fun x hx => hb x hx (fun b hb => hk b (.inr ⟨x, hx, hb⟩)) (hl.2 x hx) (hm.2 x hx)⟩
  | hif t v ih => intro hk hl hm; simp only [fl, low, Mem] at hk hl hm ⊢; exact ih hk hl hm
  | hagg cs ih =>
    intro hk hl hm
    simp only [fl, flL_flatMap, List.mem_flatMap] at hk
    simp only [low, lowL_all, List.all_eq_true] at hl
    simp only [Mem, MemL_all] at hm ⊢
    exact fun x hx => ih x hx (fun b hb => hk b ⟨x, hx, hb⟩) (hl x hx) (hm x hx)
  | htup cs ih =>
    intro hk hl hm
    simp only [fl, flL_flatMap, List.mem_flatMap] at hk
    simp only [low, lowL_all, List.all_eq_true] at hl
    simp only [Mem, MemL_all] at hm ⊢
    exact fun x hx => ih x hx (fun b hb => hk b ⟨x, hx, hb⟩) (hl x hx) (hm x hx)
  | hu d => intro _ _ hm; exact hm
  | hw p n d => intro _ _ hm; exact hm
  | _ => intro _ _ _; simp [Mem]
end

theorem low_mono {δ : Type} {m n : Nat} {v : V δ} (h : v.low m = true) (hmn : m ≤ n) : v.low n = true := by
  induction v using V.ind with
  | hp q => cases q <;> simp_all [V.low]; omega
  | hm q => cases q <;> simp_all [V.low]; omega
  | hw p c d => simp only [V.low, decide_eq_true_eq] at h ⊢; omega
  | hsl xs own d ih => simp only [V.low, V.lowL_all, List.all_eq_true] at h ⊢; exact fun x hx => ih x hx (h x hx)
  | hrd xs d ih => simp only [V.low, V.lowL_all, List.all_eq_true] at h ⊢; exact fun x hx => ih x hx (h x hx)
  | hagg xs ih => simp only [V.low, V.lowL_all, List.all_eq_true] at h ⊢; exact fun x hx => ih x hx (h x hx)
  | htup xs ih => simp only [V.low, V.lowL_all, List.all_eq_true] at h ⊢; exact fun x hx => ih x hx (h x hx)
  | hfn f a b ha hb => simp only [V.low, V.lowL_all, List.all_eq_true, Bool.and_eq_true] at h ⊢; exact ⟨fun x hx => ha x hx (h.1 x hx), fun x hx => hb x hx (h.2 x hx)⟩
  | hif t v ih => simp only [V.low] at h ⊢; exact ih h
  | _ => simp [V.low]

/-- The same at another F alone. -/
theorem Mem_F {g : Ghost} {w : World} {F : Nat → Nat} (hF : ∀ b, g.F b ≤ F b) (v : V D) (hk : ∀ b ∈ v.fl, F b = g.F b) (hm : Mem g w v) : Mem ⟨g.φ, F⟩ w v := by
  have h : ∀ (v : V D), ∃ n, v.low n = true := by
    intro v
    have mono : ∀ (v : V D) (m n : Nat), m ≤ n → v.low m = true → v.low n = true := by
      intro v
      induction v using ind with
      | hp q => intro m n h; cases q <;> simp [low]; omega
      | hm q => intro m n h; cases q <;> simp [low]; omega
      | hw p c d => intro m n h; simp only [low, decide_eq_true_eq]; omega
      | hsl xs own d ih => intro m n h; simp only [low, lowL_all, List.all_eq_true]; exact fun hh x hx => ih x hx m n h (hh x hx)
      | hrd xs d ih => intro m n h; simp only [low, lowL_all, List.all_eq_true]; exact fun hh x hx => ih x hx m n h (hh x hx)
      | hagg xs ih => intro m n h; simp only [low, lowL_all, List.all_eq_true]; exact fun hh x hx => ih x hx m n h (hh x hx)
      | htup xs ih => intro m n h; simp only [low, lowL_all, List.all_eq_true]; exact fun hh x hx => ih x hx m n h (hh x hx)
      | hfn f a b ha hb => intro m n h; simp only [low, lowL_all, List.all_eq_true, Bool.and_eq_true]; exact fun hh => ⟨fun x hx => ha x hx m n h (hh.1 x hx), fun x hx => hb x hx m n h (hh.2 x hx)⟩
      | hif t v ih => intro m n h; simp only [low]; exact ih m n h
      | _ => intros; simp [low]
    have lst : ∀ l : List (V D), (∀ x ∈ l, ∃ n, x.low n = true) → ∃ n, ∀ x ∈ l, x.low n = true := by
      intro l
      induction l with
      | nil => intro _; exact ⟨0, by simp⟩
      | cons x l ih =>
        intro h
        obtain ⟨a, ha⟩ := h x (by simp)
        obtain ⟨c, hc⟩ := ih (fun y hy => h y (by simp [hy]))
        refine ⟨max a c, fun y hy => ?_⟩
        rcases List.mem_cons.1 hy with rfl | hy
        · exact mono _ _ _ (by omega) ha
        · exact mono _ _ _ (by omega) (hc y hy)
    induction v using ind with
    | hp q => cases q with
      | none => exact ⟨0, by simp [low]⟩
      | some q => exact ⟨q.1 + 1, by simp [low]⟩
    | hm q => cases q with
      | none => exact ⟨0, by simp [low]⟩
      | some q => exact ⟨q + 1, by simp [low]⟩
    | hw p c d => exact ⟨p.1 + 1, by simp [low]⟩
    | hsl xs own d ih => obtain ⟨n, hn⟩ := lst xs ih; exact ⟨n, by simpa [low, lowL_all] using hn⟩
    | hrd xs d ih => obtain ⟨n, hn⟩ := lst xs ih; exact ⟨n, by simpa [low, lowL_all] using hn⟩
    | hagg xs ih => obtain ⟨n, hn⟩ := lst xs ih; exact ⟨n, by simpa [low, lowL_all] using hn⟩
    | htup xs ih => obtain ⟨n, hn⟩ := lst xs ih; exact ⟨n, by simpa [low, lowL_all] using hn⟩
    | hfn f a b ha hb =>
      obtain ⟨n, hn⟩ := lst a ha
      obtain ⟨m, hm⟩ := lst b hb
      exact ⟨max n m, by simp only [low, lowL_all, List.all_eq_true, Bool.and_eq_true]; exact ⟨fun x hx => mono _ _ _ (by omega) (hn x hx), fun x hx => mono _ _ _ (by omega) (hm x hx)⟩⟩
    | hif t v ih => obtain ⟨n, hn⟩ := ih; exact ⟨n, by simpa [low] using hn⟩
    | _ => exact ⟨0, by simp [low]⟩
  obtain ⟨n, hn⟩ := h v
  exact Mem_step (g := g) (g' := ⟨g.φ, F⟩) hF (fun _ _ _ => rfl) (n := n) (fun _ _ => rfl) v (fun b hb => ⟨rfl, hk b hb⟩) hn hm
end Go.Ab
end
