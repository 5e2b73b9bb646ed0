/- Abstract values and rules for them, proved sound over the model. -/
import Derived.Test.YtbdhocfaebchfaaOpLAbBorrow
set_option linter.all false
set_option linter.unusedSimpArgs false
set_option linter.unusedVariables false
set_option linter.unnecessarySimpa false
section
/- The relation between an abstract state and a world. -/
namespace Go.Ab
open V
set_option linter.unusedSimpArgs false

/-- A boxed object: a row of cells, or a map; or the record l of a loop over a function, with its temporaries. -/
inductive Ob (δ : Type) where
  | cells (cs : List (V δ))
  | map (es : List (V δ × V δ))
  | loop (l : Nat) (r : Loop) (cs : List (V δ))

def Ob.vals {δ : Type} : Ob δ → List (V δ)
  | .cells cs => cs
  | .map es => es.flatMap fun p => [p.1, p.2]
  | .loop _ _ cs => cs

def Ob.er {δ : Type} : Ob δ → Ob Unit
  | .cells cs => .cells (cs.map V.er)
  | .map es => .map (es.map fun p => (p.1.er, p.2.er))
  | .loop l r cs => .loop l r (cs.map V.er)

def ObOk (f : Nat → Nat) (w : World) (b : Nat) : Ob D → Prop
  | .cells cs => (∀ c ∈ cs, c.one = true) ∧ ∃ ty rest fz, w.heap[b]? = some (.cells ((cs.map (conc f)).toArray ++ rest) ty fz) ∧ FzOk ((cs.map (conc f)).toArray ++ rest) fz
  | .map es => ∃ ents clock, w.heap[b]? = some (.map ents clock) ∧ ents.toList.map (fun e => (e.key, e.val)) = es.map (fun p => (conc f p.1, conc f p.2))
  | .loop l r cs => b = l ∧ w.heap[b]? = some (.loop r) ∧ r.tmps = (cs.map (conc f)).toArray

/-- What was there before, and what of it must stay: X: blocks that stay as they are; F0: how many cells of each block never change; φ0: where the first N0 objects lie.
rd: the round in which the activation is; ds: the blocks of its loops' deferred calls. -/
structure Fr where
  w0 : World
  F0 : Nat → Nat
  X : Nat → Prop
  φ0 : Nat → Nat
  N0 : Nat
  rd : Option Nat := none
  ds : List Nat := []

/-- The cell of a constant. -/
def leafV : V Unit → Value
  | .bool b => .bool b
  | .int k n => .int k n
  | .str s => .string s
  | _ => .nilFunc
def leaf : V Unit → Bool
  | .bool _ | .int _ _ | .str _ => true
  | _ => false

/-- The program's tables: package-level variables that are never written, by number: their cells. -/
class Glob where
  tab : Nat → Option (List (V Unit))
  ok : ∀ b cs, tab b = some cs → cs.all leaf = true

variable [Glob]

/-- The tables lie where they should. -/
def GOk (fr : Fr) : Prop := ∀ b cs, Glob.tab b = some cs → cs.length ≤ fr.F0 b ∧ ∀ j c, cs[j]? = some c → fr.w0.cell? ⟨b, j, none⟩ = some (leafV c)

def flH (H : List (Ob D)) : List Nat := flL (H.flatMap Ob.vals)

structure Rel (fr : Fr) (g : Ghost) (vs : List (V D)) (H : List (Ob D)) (w : World) : Prop where
  mem : ∀ v ∈ vs, Mem g w v
  low : ∀ v ∈ vs, v.low H.length = true
  hmem : ∀ (i : Nat) o, H[i]? = some o → (∀ c ∈ o.vals, Mem g w c ∧ c.low i = true) ∧ ObOk g.φ w (g.φ i) o ∧ g.F (g.φ i) = 0 ∧ ¬ fr.X (g.φ i)
  inj : ∀ i j, i < H.length → j < H.length → g.φ i = g.φ j → i = j
  uniq : ∀ b, (flL vs).count b + (flH H).count b ≤ 1
  own : ∀ b, b ∈ flL vs ∨ b ∈ flH H → ¬ fr.X b ∧ ∀ i, i < H.length → g.φ i ≠ b
  frX : ∀ b, fr.X b → w.heap[b]? = fr.w0.heap[b]? ∧ g.F b = fr.F0 b ∧ b < fr.w0.heap.size
  frF : ∀ b, fr.F0 b ≤ g.F b
  frC : ∀ b i, i < fr.F0 b → w.cell? ⟨b, i, none⟩ = fr.w0.cell? ⟨b, i, none⟩
  frS : fr.w0.heap.size ≤ w.heap.size ∧ w.os = fr.w0.os ∧ w.tape = fr.w0.tape ∧ w.output = fr.w0.output
  frφ : fr.N0 ≤ H.length ∧ ∀ i, i < fr.N0 → g.φ i = fr.φ0 i
  new : ∀ b, w.heap.size ≤ b → g.F b = 0
  gl : GOk fr

theorem flL_append (a b : List (V D)) : flL (a ++ b) = flL a ++ flL b := by simp [flL_flatMap]
theorem flL_mem {l : List (V D)} {b : Nat} : b ∈ flL l ↔ ∃ v ∈ l, b ∈ v.fl := by rw [flL_flatMap]; exact List.mem_flatMap

theorem count_set (b : Nat) (v u : V D) : ∀ (l : List (V D)) (t : Nat), l[t]? = some u →
    (flL (l.set t v)).count b + u.fl.count b = (flL l).count b + v.fl.count b := by
  intro l
  induction l with
  | nil => intro t h; simp at h
  | cons x l ih =>
    intro t h
    cases t with
    | zero =>
      simp only [List.getElem?_cons_zero, Option.some.injEq] at h
      subst h
      simp only [List.set_cons_zero, flL, List.count_append]; omega
    | succ t =>
      simp only [List.getElem?_cons_succ] at h
      have := ih t h
      simp only [List.set_cons_succ, flL, List.count_append]; omega

theorem count_set_le (b : Nat) (v : V D) (l : List (V D)) (t : Nat) : (flL (l.set t v)).count b ≤ (flL l).count b + v.fl.count b := by
  by_cases h : t < l.length
  · have := count_set b v l[t] l t (by simp [h]); omega
  · rw [List.set_eq_of_length_le (by omega)]; omega

theorem leave1_flagless {δ : Type} (u : V δ → δ) (v : V δ) : (leave1 u v).flagless = true := by
  unfold leave1; split
  · assumption
  · rfl
theorem leave_flagless {δ : Type} (u : V δ → δ) (v : V δ) : (leave u v).flagless = true := by
  cases v <;> first | exact leave1_flagless u _ | skip
  simp only [leave, flagless, flaglessL_all, List.all_eq_true, List.mem_map]
  rintro _ ⟨x, _, rfl⟩; exact leave1_flagless u x

def raw (f : Nat → Nat) (v : V D) : D := { raw := conc f v }
theorem conc_leave1 (f : Nat → Nat) (v : V D) : conc f (leave1 (raw f) v) = conc f v := by unfold leave1; split <;> simp [conc, raw]
theorem conc_leave (f : Nat → Nat) (v : V D) : conc f (leave (raw f) v) = conc f v := by
  cases v <;> first | exact conc_leave1 f _ | skip
  simp [leave, conc, concL_map, Function.comp_def, conc_leave1]
theorem er_leave1 {δ : Type} (u : V δ → δ) (v : V δ) : (leave1 u v).er = leave1 (fun _ => ()) v.er := by
  unfold leave1; rw [er_flagless]; split <;> simp [er]
theorem er_leave {δ : Type} (u : V δ → δ) (v : V δ) : (leave u v).er = leave (fun _ => ()) v.er := by
  cases v <;> first | exact er_leave1 u _ | skip
  simp only [leave, er, erL_map, List.map_map, Function.comp_def, er_leave1]
theorem conc_no_bool {f : Nat → Nat} {v : V D} (h : ¬ v.flagless = true) (b : Bool) : conc f v ≠ .bool b := by
  cases v <;> simp_all [conc, flagless]
  all_goals (try split <;> simp_all)
theorem Mem_leave1 {g : Ghost} {w : World} (f : Nat → Nat) {v : V D} (h : Mem g w v) : Mem g w (leave1 (raw f) v) := by
  unfold leave1; split
  · exact h
  · rename_i hf; simp only [Mem]; exact conc_no_bool hf
theorem Mem_leave {g : Ghost} {w : World} (f : Nat → Nat) {v : V D} (h : Mem g w v) : Mem g w (leave (raw f) v) := by
  cases v <;> first | exact Mem_leave1 f h | skip
  simp only [Mem, MemL_all, leave, List.mem_map] at h ⊢
  rintro _ ⟨x, hx, rfl⟩; exact Mem_leave1 f (h x hx)
theorem low_leave1 {δ : Type} {n : Nat} (u : V δ → δ) {v : V δ} (h : v.low n = true) : (leave1 u v).low n = true := by
  unfold leave1; split
  · exact h
  · simp [V.low]
theorem low_leave {δ : Type} {n : Nat} (u : V δ → δ) {v : V δ} (h : v.low n = true) : (leave u v).low n = true := by
  cases v <;> first | exact low_leave1 u h | skip
  simp only [V.low, lowL_all, leave, List.all_eq_true, List.mem_map] at h ⊢
  rintro _ ⟨x, hx, rfl⟩; exact low_leave1 u (h x hx)
theorem one_leave1 {δ : Type} (u : V δ → δ) {v : V δ} (h : v.one = true) : (leave1 u v).one = true := by
  unfold leave1; split
  · exact h
  · rfl

namespace Rel
variable {fr : Fr} {g : Ghost} {vs : List (V D)} {H : List (Ob D)} {w : World}

/-- Fewer values. -/
theorem sub {us : List (V D)} (h : Rel fr g vs H w) (hm : ∀ v ∈ us, v ∈ vs) (hc : ∀ b, (flL us).count b ≤ (flL vs).count b) : Rel fr g us H w :=
  { h with
    mem := fun v hv => h.mem v (hm v hv)
    low := fun v hv => h.low v (hm v hv)
    uniq := fun b => Nat.le_trans (Nat.add_le_add_right (hc b) _) (h.uniq b)
    own := fun b hb => h.own b (hb.imp (fun hb => by
      have h1 := List.count_pos_iff.2 hb
      exact List.count_pos_iff.1 (Nat.lt_of_lt_of_le h1 (hc b))) id) }

theorem tail {v : V D} (h : Rel fr g (v :: vs) H w) : Rel fr g vs H w :=
  h.sub (fun _ hx => by simp [hx]) (fun b => by simp [flL, List.count_append])

/-- One more value without a right. -/
theorem cons {v : V D} (h : Rel fr g vs H w) (hm : Mem g w v) (hl : v.low H.length = true) (hf : v.fl = []) : Rel fr g (v :: vs) H w :=
  { h with
    mem := fun x hx => by rcases List.mem_cons.1 hx with rfl | hx; exact hm; exact h.mem x hx
    low := fun x hx => by rcases List.mem_cons.1 hx with rfl | hx; exact hl; exact h.low x hx
    uniq := fun b => by simp only [flL, hf, List.nil_append]; exact h.uniq b
    own := fun b hb => h.own b (by simpa only [flL, hf, List.nil_append] using hb) }

/-- The first value is put into a slot. -/
theorem put {v : V D} (h : Rel fr g (v :: vs) H w) (t : Nat) : Rel fr g (vs.set t v) H w :=
  h.sub (fun x hx => by rcases List.mem_or_eq_of_mem_set hx with hx | rfl <;> simp_all) (fun b => by
    have := count_set_le b v vs t
    simp only [flL, List.count_append]; omega)

/-- A value is taken out of a slot. -/
theorem take {t : Nat} {v : V D} (h : Rel fr g vs H w) (ht : vs[t]? = some v) : Rel fr g (v :: vs.set t (leave (raw g.φ) v)) H w := by
  have hv : v ∈ vs := List.mem_of_getElem? ht
  refine { h with mem := ?_, low := ?_, uniq := ?_, own := ?_ }
  · intro x hx
    rcases List.mem_cons.1 hx with rfl | hx
    · exact h.mem _ hv
    · rcases List.mem_or_eq_of_mem_set hx with hx | rfl
      · exact h.mem x hx
      · exact Mem_leave _ (h.mem v hv)
  · intro x hx
    rcases List.mem_cons.1 hx with rfl | hx
    · exact h.low _ hv
    · rcases List.mem_or_eq_of_mem_set hx with hx | rfl
      · exact h.low x hx
      · exact low_leave _ (h.low v hv)
  · intro b
    have := count_set b (leave (raw g.φ) v) v vs t ht
    rw [fl_nil (leave_flagless _ _)] at this
    have := h.uniq b
    simp only [flL, List.count_append, List.count_nil] at *; omega
  · intro b hb
    refine h.own b (hb.imp (fun hb => ?_) id)
    have h1 := List.count_pos_iff.2 hb
    have := count_set b (leave (raw g.φ) v) v vs t ht
    rw [fl_nil (leave_flagless _ _)] at this
    refine List.count_pos_iff.1 ?_
    simp only [flL, List.count_append, List.count_nil] at *; omega

/-- The same world, with more cells that never change. -/
theorem ghostF {F : Nat → Nat} {us : List (V D)} (h : Rel fr g vs H w) (hF : ∀ b, g.F b ≤ F b) (hk : ∀ b, b ∉ flL vs → F b = g.F b)
    (hm : ∀ v ∈ us, Mem ⟨g.φ, F⟩ w v) (hl : ∀ v ∈ us, v.low H.length = true) (hc : ∀ b, (flL us).count b ≤ (flL vs).count b) : Rel fr ⟨g.φ, F⟩ us H w := by
  have hX : ∀ b, fr.X b → F b = g.F b := fun b hb => hk b fun hf => (h.own b (.inl hf)).1 hb
  have hO : ∀ i, i < H.length → F (g.φ i) = g.F (g.φ i) := fun i hi => hk _ fun hf => (h.own _ (.inl hf)).2 i hi rfl
  refine { h with mem := hm, low := hl, hmem := ?_, uniq := ?_, own := ?_, frX := ?_, frF := fun b => Nat.le_trans (h.frF b) (hF b), new := ?_ }
  · intro i o ho
    obtain ⟨h1, h2, h3, h4⟩ := h.hmem i o ho
    refine ⟨fun c hc' => ⟨Mem_F hF c (fun b hb => hk b fun hf => ?_) (h1 c hc').1, (h1 c hc').2⟩, h2, ?_, h4⟩
    · have e1 := List.count_pos_iff.2 hf
      have e2 : 0 < (flH H).count b := List.count_pos_iff.2 (flL_mem.2 ⟨c, List.mem_flatMap.2 ⟨o, List.mem_of_getElem? ho, hc'⟩, hb⟩)
      have := h.uniq b
      omega
    · exact (hO i (List.getElem?_eq_some_iff.1 ho).1).trans h3
  · intro b; exact Nat.le_trans (Nat.add_le_add_right (hc b) _) (h.uniq b)
  · intro b hb
    exact h.own b (hb.imp (fun hb => List.count_pos_iff.1 (Nat.lt_of_lt_of_le (List.count_pos_iff.2 hb) (hc b))) id)
  · intro b hb
    obtain ⟨h1, h2, h3⟩ := h.frX b hb
    exact ⟨h1, (hX b hb).trans h2, h3⟩
  · intro b hb
    refine (hk b fun hf => ?_).trans (h.new b hb)
    obtain ⟨v, hv, hbv⟩ := flL_mem.1 hf
    have := flsize hbv (h.mem v hv)
    omega
where flsize {g : Ghost} {w : World} {b : Nat} : ∀ {v : V D}, b ∈ v.fl → Mem g w v → b < w.heap.size := by
        intro v
        induction v using ind with
        | hsl xs own d ih =>
          intro hb hm
          simp only [fl, List.mem_append] at hb
          simp only [Mem, MemL_all] at hm
          rcases hb with hb | hb
          · cases own with
            | none => simp at hb
            | some k =>
              obtain ⟨hm, hU, he, hc, hs⟩ := hm
              cases hd : d.a with
              | none => simp [hd] at hb
              | some p =>
                simp only [hd, Option.isSome_some, if_true, Option.map_some, Option.toList_some, List.mem_singleton] at hb hs
                obtain ⟨_, _, _, _, _, c, ty, fz, hw, _⟩ := hs
                subst hb
                exact (Array.getElem?_eq_some_iff.1 hw).1
          · obtain ⟨x, hx, hbx⟩ := flL_mem.1 hb
            exact ih x hx hbx (hm.1 x hx)
        | hrd cs d ih =>
          intro hb hm
          simp only [fl] at hb
          simp only [Mem, MemL_all] at hm
          obtain ⟨x, hx, hbx⟩ := flL_mem.1 hb
          exact ih x hx hbx (hm.1 x hx)
        | hfn f a c ha hc =>
          intro hb hm
          simp only [fl, List.mem_append] at hb
          simp only [Mem, MemL_all] at hm
          rcases hb with hb | hb
          · obtain ⟨x, hx, hbx⟩ := flL_mem.1 hb; exact ha x hx hbx (hm.1 x hx)
          · obtain ⟨x, hx, hbx⟩ := flL_mem.1 hb; exact hc x hx hbx (hm.2 x hx)
        | hif t v ih => intro hb hm; simp only [fl, Mem] at hb hm; exact ih hb hm
        | hagg cs ih => intro hb hm; simp only [fl, Mem, MemL_all] at hb hm; obtain ⟨x, hx, hbx⟩ := flL_mem.1 hb; exact ih x hx hbx (hm x hx)
        | htup cs ih => intro hb hm; simp only [fl, Mem, MemL_all] at hb hm; obtain ⟨x, hx, hbx⟩ := flL_mem.1 hb; exact ih x hx hbx (hm x hx)
        | _ => intro hb; simp [fl] at hb

theorem nodup {t : Nat} {v : V D} (h : Rel fr g vs H w) (ht : vs[t]? = some v) : v.fl.Nodup := by
  rw [List.nodup_iff_count]
  intro b
  have h1 := count_set b (.nilFn) v vs t ht
  have h2 := h.uniq b
  simp only [fl, List.count_nil] at h1
  omega

/-- A copy is handed out of a slot. -/
theorem copy {t : Nat} {v : V D} (h : Rel fr g vs H w) (ht : vs[t]? = some v) : ∃ F, Rel fr ⟨g.φ, F⟩ (v.strip :: vs.set t v.share) H w := by
  have hv : v ∈ vs := List.mem_of_getElem? ht
  obtain ⟨F, h1, h2, h3, h4⟩ := borrow w v g (h.mem v hv) (h.nodup ht)
  refine ⟨F, h.ghostF h1 (fun b hb => h2 b fun hf => hb (flL_mem.2 ⟨v, hv, hf⟩)) ?_ ?_ ?_⟩
  · intro x hx
    rcases List.mem_cons.1 hx with rfl | hx
    · exact h4
    · obtain ⟨j, hj⟩ := List.mem_iff_getElem?.1 hx
      rw [List.getElem?_set] at hj
      split at hj
      · split at hj
        · simp only [Option.some.injEq] at hj; subst hj; exact h3
        · simp at hj
      · rename_i hne
        refine Mem_F h1 x (fun b hb => h2 b fun hf => ?_) (h.mem x (List.mem_of_getElem? hj))
        have c1 := count_set b (.nilFn) v vs t ht
        have c2 := count_set b (.nilFn) x (vs.set t .nilFn) j (by rw [List.getElem?_set, if_neg hne]; exact hj)
        have c3 := h.uniq b
        have c4 := List.count_pos_iff.2 hf
        have c5 := List.count_pos_iff.2 hb
        simp only [fl, List.count_nil] at c1 c2
        omega
  · intro x hx
    rcases List.mem_cons.1 hx with rfl | hx
    · rw [strip_low]; exact h.low v hv
    · rcases List.mem_or_eq_of_mem_set hx with hx | rfl
      · exact h.low x hx
      · rw [share_low]; exact h.low v hv
  · intro b
    have := count_set b v.share v vs t ht
    rw [share_fl] at this
    simp only [flL, strip_fl, List.nil_append]
    omega

/-- A draw. -/
theorem drew (h : Rel fr g vs H w) (n : Nat) : Rel fr g vs H { w with drawn := n } := by
  have hc : ∀ a, World.cell? { w with drawn := n } a = w.cell? a := fun _ => rfl
  refine { h with mem := ?_, hmem := ?_, frX := h.frX, frC := h.frC, frS := h.frS, new := h.new }
  · exact fun v hv => Mem_step (g := g) (g' := g) (w := w) (w' := { w with drawn := n }) (fun _ => Nat.le_refl _) (fun _ _ _ => rfl) (n := H.length) (fun _ _ => rfl) v (fun _ _ => ⟨rfl, rfl⟩) (h.low v hv) (h.mem v hv)
  · intro i o ho
    obtain ⟨h1, h2, h3, h4⟩ := h.hmem i o ho
    refine ⟨fun c hc => ⟨Mem_step (g := g) (g' := g) (w := w) (w' := { w with drawn := n }) (fun _ => Nat.le_refl _) (fun _ _ _ => rfl) (n := i) (fun _ _ => rfl) c (fun _ _ => ⟨rfl, rfl⟩) (h1 c hc).2 (h1 c hc).1, (h1 c hc).2⟩, ?_, h3, h4⟩
    cases o <;> exact h2
end Rel
end Go.Ab
end
