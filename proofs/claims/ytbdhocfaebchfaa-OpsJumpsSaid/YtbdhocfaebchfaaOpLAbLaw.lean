/- Abstract values and rules for them, proved sound over the model. -/
import Derived.Test.YtbdhocfaebchfaaOpLAbSet
import Derived.WideKeyArgs
import Derived.WalkKit
import Derived.ProofKit
import Derived.OpenShut
set_option linter.all false
set_option linter.unusedSimpArgs false
set_option linter.unusedVariables false
set_option linter.unnecessarySimpa false
section
/- From the given statements' readings to abstract values, and back. -/
namespace Go.Ab
open V Go.ChangeShapes Go.WideShapes
variable [Glob]
set_option linter.unusedSimpArgs false
set_option linter.unusedVariables false
set_option linter.unusedSectionVars false

def aggT (P : Program) (t : TypeId) : Bool := match P.underlying t with | some (.struct _) | some (.array _ _) => true | _ => false

/-- Cells that are a value of the type t. -/
def FitsC (P : Program) : Nat → TypeId → List A → Prop
  | 0, _, _ => False
  | n + 1, t, as =>
    match P.underlying t with
    | some .bool => ∃ b, as = [.bool b]
    | some (.int k) => ∃ i, as = [.int k i] ∧ (Lit.int k i).wf = true
    | some .string => ∃ s, as = [.str s] ∧ s.size ≤ maxLen
    | some (.slice e) => ∃ xs, as = [.sl xs none ()] ∧ xs.length ≤ maxLen ∧ ∀ x ∈ xs, (if aggT P e then ∃ cs, x = .agg cs ∧ FitsC P n e cs else FitsC P n e [x])
    | some (.struct fs) => ∃ ps : List (List A), as = ps.flatten ∧ ps.length = fs.size ∧ ∀ (i : Nat) (f : Field) p, fs[i]? = some f → ps[i]? = some p → FitsC P n f.type p
    | _ => False
def FitsV (P : Program) (n : Nat) (t : TypeId) (x : A) : Prop := if aggT P t then ∃ cs, x = .agg cs ∧ FitsC P n t cs else FitsC P n t [x]

def tiles (P : Program) : Nat → List Field → Nat → Bool
  | o, [], tot => o == tot
  | o, f :: l, tot => f.offset == o && tiles P (o + P.cellsOf f.type) l tot
/-- Types of which this text knows how they are read. -/
def okT (P : Program) : Nat → Bool → TypeId → Bool
  | 0, _, _ => false
  | n + 1, nest, t =>
    match P.underlying t with
    | some .bool | some (.int _) | some .string => true
    | some (.slice e) => okT P n nest e && decide (0 < P.cellsOf e)
    | some (.struct fs) => tiles P 0 fs.toList (P.cellsOf t) && fs.toList.all fun f => okT P n nest f.type
    | _ => false

/-- How many cells a block has. -/
def gF (W : World) (b : Nat) : Nat := match W.heap[b]? with | some (.cells c _ _) => c.size | _ => 0
def g0 (W : World) : Ghost := ⟨fun _ => 0, gF W⟩
def GoodA (W : World) (a : V D) : Prop := Mem (g0 W) W a ∧ solid a = true ∧ a.flagless = true ∧ a.low 0 = true

theorem exists_list {α : Type} {p : Nat → α → Prop} : ∀ (n : Nat), (∀ i, i < n → ∃ x, p i x) → ∃ xs : List α, xs.length = n ∧ ∀ i x, xs[i]? = some x → p i x := by
  intro n
  induction n with
  | zero => intro _; exact ⟨[], rfl, by simp⟩
  | succ n ih =>
    intro h
    obtain ⟨xs, h1, h2⟩ := ih fun i hi => h i (by omega)
    obtain ⟨x, hx⟩ := h n (by omega)
    refine ⟨xs ++ [x], by simp [h1], fun i y hy => ?_⟩
    rcases Nat.lt_or_ge i n with hi | hi
    · rw [List.getElem?_append_left (by omega)] at hy; exact h2 i y hy
    · rw [List.getElem?_append_right (by omega), h1] at hy
      have : i = n := by
        rcases Nat.lt_or_ge n i with h | h
        · rw [List.getElem?_eq_none (by simp; omega)] at hy; cases hy
        · omega
      subst this
      simp at hy; subst hy; exact hx

section
variable {H : Type} {enc : TypeId × Value → H} {P : Program} {W : World} {base : Nat} {spare : Nat → Bool} {held : Bool}

theorem tile_cells {n : Nat} {cs : List Value} {tot : Nat} (hcs : cs.length = tot) : ∀ (l : List Field) (o : Nat), tiles P o l tot = true →
    (∀ f ∈ l, ∃ as : List (V D), as.map (V.conc (g0 W).φ) = (cs.drop f.offset).take (P.cellsOf f.type) ∧ (∀ a ∈ as, GoodA W a) ∧ FitsC P n f.type (as.map er)) →
    ∃ (as : List (V D)) (ps : List (List A)), as.map (V.conc (g0 W).φ) = cs.drop o ∧ (∀ a ∈ as, GoodA W a) ∧ as.map er = ps.flatten ∧ ps.length = l.length ∧ ∀ (i : Nat) (f : Field) p, l[i]? = some f → ps[i]? = some p → FitsC P n f.type p := by
  intro l
  induction l with
  | nil =>
    intro o ht _
    simp only [tiles, beq_iff_eq] at ht
    refine ⟨[], [], ?_, by simp, rfl, rfl, by simp⟩
    rw [List.drop_of_length_le (by omega)]; rfl
  | cons f l ih =>
    intro o ht h
    simp only [tiles, Bool.and_eq_true, beq_iff_eq] at ht
    obtain ⟨as1, a1, a2, a3⟩ := h f (by simp)
    obtain ⟨as2, ps, b1, b2, b3, b4, b5⟩ := ih _ ht.2 fun f hf => h f (by simp [hf])
    refine ⟨as1 ++ as2, as1.map er :: ps, ?_, ?_, ?_, by simp [b4], ?_⟩
    · rw [List.map_append, a1, b1, ht.1, ← List.drop_drop, List.take_append_drop]
    · intro a ha
      rcases List.mem_append.1 ha with ha | ha
      · exact a2 a ha
      · exact b2 a ha
    · rw [List.map_append, List.flatten_cons, b3]
    · intro i f' p hf' hp
      cases i with
      | zero => simp only [List.getElem?_cons_zero, Option.some.injEq] at hf' hp; subst hf'; subst hp; exact a3
      | succ i => simp only [List.getElem?_cons_succ] at hf' hp; exact b5 i f' p hf' hp

/-- The head of a slice that has room points to a cell. -/
theorem slice_spot {fuel : Nat} {e : TypeId} {a : Addr} {len cap : Nat} {elems rest : List (DataW H × List MemPlace)} (hes : 0 < P.cellsOf e) (hspare : ∀ b, spare b = true) (hlen : elems.length = len) (hlc : len ≤ cap)
    (hel : ∀ i, i < len → (W.cells? base (a.add (i * P.cellsOf e)) (P.cellsOf e)).bind (DataW.trod enc P W base spare held fuel e) = elems[i]?)
    (hre : spare a.block = true → rest.length = cap - len ∧ ∀ j, j < cap - len → (W.cells? base (a.add ((len + j) * P.cellsOf e)) (P.cellsOf e)).bind (DataW.trod enc P W base spare held fuel e) = rest[j]?) :
    a.spot = none ∨ (len = 0 ∧ cap = 0) := by
  have key : ∀ y, (W.cells? base (a.add (0 * P.cellsOf e)) (P.cellsOf e)).bind (DataW.trod enc P W base spare held fuel e) = some y → a.spot = none := by
    intro y hy
    obtain ⟨cs, hcs, _⟩ := Option.bind_eq_some_iff.1 hy
    unfold World.cells? at hcs
    split at hcs
    · have := mapM_some_get hcs 0 0 (by simp [hes])
      rw [Nat.zero_mul] at this
      have h2 : (a.add 0).add 0 = a := rfl
      rw [h2] at this
      cases hq : W.cell? a with
      | none =>
        rw [hq] at this
        have hl := mapM_some_length hcs
        rw [List.length_range] at hl
        have := List.getElem?_eq_none_iff.1 this.symm
        omega
      | some v => exact World.cell?_spot hq
    · cases hcs
  rcases Nat.eq_zero_or_pos cap with hc | hc
  · exact .inr ⟨by omega, hc⟩
  left
  rcases Nat.eq_zero_or_pos len with hl | hl
  · obtain ⟨h1, h2⟩ := hre (hspare _)
    have := h2 0 (by omega)
    rw [hl, Nat.add_zero, List.getElem?_eq_getElem (by omega)] at this
    exact key _ this
  · have := hel 0 hl
    rw [List.getElem?_eq_getElem (by omega)] at this
    exact key _ this

theorem abs_cells (hspare : ∀ b, spare b = true) : ∀ (n : Nat) (nest : Bool) (t : TypeId) (fuel : Nat) (cs : List Value) (x : DataW H × List MemPlace), okT P n nest t = true → DataW.trod enc P W base spare held fuel t cs = some x →
    ∃ as : List (V D), as.map (V.conc (g0 W).φ) = cs ∧ (∀ a ∈ as, GoodA W a) ∧ FitsC P n t (as.map er) := by
  intro n
  induction n with
  | zero => intro nest t fuel cs x hok; simp [okT] at hok
  | succ n ih =>
    intro nest t fuel cs x hok h
    simp only [okT] at hok
    split at hok
    · rename_i ht
      obtain ⟨b, rfl, _⟩ := DataW.trod_bool ht h
      refine ⟨[.bool b], rfl, by simp [GoodA, Mem, solid, flagless, low], ?_⟩
      simp only [FitsC, ht]; exact ⟨b, rfl⟩
    · rename_i k ht
      obtain ⟨i, rfl, _, hw⟩ := DataW.trod_int ht h
      refine ⟨[.int k i], rfl, by simp [GoodA, Mem, solid, flagless, low], ?_⟩
      simp only [FitsC, ht]; exact ⟨i, rfl, hw⟩
    · rename_i ht
      obtain ⟨s, rfl, _, hw⟩ := DataW.trod_string ht h
      refine ⟨[.str s], rfl, by simp [GoodA, Mem, solid, flagless, low], ?_⟩
      simp only [FitsC, ht]; exact ⟨s, rfl, hw⟩
    · rename_i e ht
      simp only [Bool.and_eq_true, decide_eq_true_eq] at hok
      obtain ⟨hoke, hes⟩ := hok
      rcases DataW.trod_slice ht h with ⟨rfl, _⟩ | ⟨a, len, cap, elems, rest, m, _, rfl, _, hb, hl, hm, hlen, hel, hre, _⟩
      · refine ⟨[.sl [] none { a := none, cap := 0, es := P.cellsOf e }], rfl, ?_, ?_⟩
        · intro a ha
          rw [List.mem_singleton.1 ha]
          exact ⟨⟨trivial, rfl, hes, Nat.le_refl _, rfl, rfl⟩, rfl, rfl, rfl⟩
        · simp only [FitsC, ht]; exact ⟨[], rfl, by simp, by simp⟩
      · rcases slice_spot (W := W) hes hspare hlen hl hel hre with ha | ⟨rfl, rfl⟩
        rotate_left
        · refine ⟨[.sl [] none { a := none, cap := 0, es := P.cellsOf e, wa := some a }], rfl, ?_, ?_⟩
          · intro a ha
            rw [List.mem_singleton.1 ha]
            exact ⟨⟨trivial, rfl, hes, Nat.le_refl _, rfl, rfl⟩, rfl, rfl, rfl⟩
          · simp only [FitsC, ht]; exact ⟨[], rfl, by simp, by simp⟩
        have hone : ∀ i, i < len → ∃ x : V D, (x.cells.map (V.conc (g0 W).φ)).length = P.cellsOf e ∧ (∀ (j : Nat) c, x.cells[j]? = some c → W.cell? ⟨a.block, a.off + (i * P.cellsOf e + j), none⟩ = some (c.conc (g0 W).φ)) ∧
            (∀ c ∈ x.cells, GoodA W c) ∧ Mem (g0 W) W x ∧ x.flagless = true ∧ x.low 0 = true ∧ (if aggT P e then ∃ cs, x.er = .agg cs ∧ FitsC P n e cs else FitsC P n e [x.er]) := by
          intro i hi
          have h1 := hel i hi
          have h2 : i < elems.length := by omega
          rw [List.getElem?_eq_getElem h2] at h1
          obtain ⟨cs, hcs, htr⟩ := Option.bind_eq_some_iff.1 h1
          unfold World.cells? at hcs
          split at hcs
          · have hcl := mapM_some_length hcs
            have hcg := mapM_some_get hcs
            rw [List.length_range] at hcl
            obtain ⟨as, k1, k2, k3⟩ := ih nest e m cs _ hoke htr
            have hal : as.length = P.cellsOf e := by rw [← hcl, ← k1, List.length_map]
            have hcell : ∀ (j : Nat) c, as[j]? = some c → W.cell? ⟨a.block, a.off + (i * P.cellsOf e + j), none⟩ = some (c.conc (g0 W).φ) := by
              intro j c hc
              have hj : j < P.cellsOf e := by rw [← hal]; exact (List.getElem?_eq_some_iff.1 hc).1
              have := hcg j j (by simp [hj])
              rw [← k1, List.getElem?_map, hc] at this
              rw [show (⟨a.block, a.off + (i * P.cellsOf e + j), none⟩ : Addr) = (a.add (i * P.cellsOf e)).add j by
                unfold Addr.add
                split <;> split <;> simp_all <;> (try omega)
                all_goals (cases a; simp_all)]
              exact this
            by_cases hagg : aggT P e = true
            · refine ⟨.agg as, by simpa [V.cells] using hal, hcell, k2, ?_, ?_, ?_, ?_⟩
              · exact (MemL_all _).2 fun v hv => (k2 v hv).1
              · simp only [flagless, flaglessL_all, List.all_eq_true]; exact fun v hv => (k2 v hv).2.2.1
              · simp only [low, lowL_all, List.all_eq_true]; exact fun v hv => (k2 v hv).2.2.2
              · rw [if_pos hagg]; exact ⟨as.map er, by simp [er, erL_map], k3⟩
            · -- one cell
              have hone : ∃ y, as = [y] := by
                have hf := k3
                cases n with
                | zero => simp [FitsC] at hf
                | succ n =>
                  simp only [FitsC] at hf
                  have : (as.map er).length = 1 := by
                    split at hf
                    · obtain ⟨b, hb⟩ := hf; rw [hb]; rfl
                    · obtain ⟨b, hb, _⟩ := hf; rw [hb]; rfl
                    · obtain ⟨b, hb, _⟩ := hf; rw [hb]; rfl
                    · obtain ⟨b, hb, _⟩ := hf; rw [hb]; rfl
                    · rename_i fs hu; exfalso; unfold aggT at hagg; rw [hu] at hagg; simp at hagg
                    · exact hf.elim
                  rw [List.length_map] at this
                  match as, this with
                  | [y], _ => exact ⟨y, rfl⟩
              obtain ⟨y, rfl⟩ := hone
              have hy := k2 y (by simp)
              have hyc : y.cells = [y] := cells_ne (solid_one hy.2.1)
              refine ⟨y, by rw [hyc]; simpa using hal, by rw [hyc]; exact hcell, by rw [hyc]; exact k2, hy.1, hy.2.2.1, hy.2.2.2, ?_⟩
              rw [if_neg hagg]; exact k3
          · cases hcs
        obtain ⟨xs, hxl, hx⟩ := exists_list len hone
        have huni : Uni (P.cellsOf e) xs = true := by
          simp only [Uni, List.all_eq_true, beq_iff_eq]
          intro x hxm
          obtain ⟨i, hi⟩ := List.getElem?_of_mem hxm
          have := (hx i x hi).1
          simpa using this
        have hflat : ∀ (j : Nat) c, (flat xs)[j]? = some c → solid c = true ∧ W.cell? ⟨a.block, a.off + j, none⟩ = some (c.conc (g0 W).φ) := by
          intro j c hc
          have hjl : j < xs.length * P.cellsOf e := by rw [← flat_length huni]; exact (List.getElem?_eq_some_iff.1 hc).1
          have hq : j / P.cellsOf e < xs.length := (Nat.div_lt_iff_lt_mul hes).2 hjl
          have hr := Nat.mod_lt j hes
          have hj : j = j / P.cellsOf e * P.cellsOf e + j % P.cellsOf e := by rw [Nat.mul_comm]; exact (Nat.div_add_mod j _).symm
          have hxi : xs[j / P.cellsOf e]? = some xs[j / P.cellsOf e] := List.getElem?_eq_getElem hq
          have hg := flat_get huni hxi hr
          rw [← hj, hc] at hg
          obtain ⟨m1, m2, m3, _⟩ := hx _ _ hxi
          have := m2 _ c hg.symm
          rw [← hj] at this
          exact ⟨(m3 c (List.mem_of_getElem? hg.symm)).2.1, this⟩
        have hmem : ∀ x ∈ xs, Mem (g0 W) W x ∧ x.flagless = true ∧ x.low 0 = true ∧ (if aggT P e then ∃ cs, x.er = .agg cs ∧ FitsC P n e cs else FitsC P n e [x.er]) := by
          intro x hxm
          obtain ⟨i, hi⟩ := List.getElem?_of_mem hxm
          exact (hx i x hi).2.2.2
        refine ⟨[.sl xs none { a := some (a.block, a.off), cap := cap, es := P.cellsOf e }], ?_, ?_, ?_⟩
        · simp only [List.map_cons, List.map_nil, conc, slA, hxl]
          cases a; simp only at ha; subst ha; rfl
        · intro v hv
          rw [List.mem_singleton.1 hv]
          refine ⟨⟨(MemL_all _).2 fun x hx => (hmem x hx).1, huni, hes, by simp only; omega, hflat, ?_, ?_⟩, rfl, ?_, ?_⟩
          · rw [flaglessL_all]; simp only [List.all_eq_true]; exact fun x hx => (hmem x hx).2.1
          · cases hxs : xs with
            | nil => exact .inl rfl
            | cons y ys =>
              right
              have hpos : 0 < xs.length := by rw [hxs]; simp
              have hlast : xs.length * P.cellsOf e - 1 < (flat xs).length := by
                rw [flat_length huni]
                have := Nat.mul_pos hpos hes
                omega
              have := (hflat _ _ (List.getElem?_eq_getElem hlast)).2
              rw [← hxs]
              have hp := Nat.mul_pos hpos hes
              show a.off + xs.length * P.cellsOf e ≤ gF W a.block
              unfold gF
              unfold World.cell? at this
              simp only at this
              split at this
              · rename_i c _ _ hh
                simp only [hh]
                simp only [Option.isSome_none, Bool.false_eq_true, if_false] at this
                have := (Array.getElem?_eq_some_iff.1 this).1
                omega
              · cases this
          · simp only [flagless, Option.isNone_none, Bool.true_and, flaglessL_all, List.all_eq_true]; exact fun x hx => (hmem x hx).2.1
          · simp only [low, lowL_all, List.all_eq_true]; exact fun x hx => (hmem x hx).2.2.1
        · simp only [FitsC, ht]
          refine ⟨xs.map er, by simp [er, erL_map], by simp; omega, ?_⟩
          intro x hxm
          obtain ⟨y, hy, rfl⟩ := List.mem_map.1 hxm
          exact (hmem y hy).2.2.2
    · rename_i fs ht
      simp only [Bool.and_eq_true, List.all_eq_true] at hok
      obtain ⟨hti, hfs⟩ := hok
      obtain ⟨xs, m, _, _, hcl, hxl, hf⟩ := DataW.trod_struct ht h
      obtain ⟨as, ps, b1, b2, b3, b4, b5⟩ := tile_cells (W := W) (n := n) hcl fs.toList 0 hti (by
        intro f hfm
        obtain ⟨i, hi⟩ := List.getElem?_of_mem hfm
        have hi' : fs[i]? = some f := by simpa using hi
        have h1 := hf i f hi'
        have hlt : i < xs.length := by rw [hxl]; exact (Array.getElem?_eq_some_iff.1 hi').1
        rw [List.getElem?_eq_getElem hlt] at h1
        exact ih nest f.type m _ _ (hfs f hfm) h1)
      refine ⟨as, by simpa using b1, b2, ?_⟩
      simp only [FitsC, ht]
      refine ⟨ps, b3, by simpa using b4, fun i f p hf hp => b5 i f p (by simpa using hf) hp⟩
    · cases hok
end
end Go.Ab
end
