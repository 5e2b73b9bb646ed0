/- Abstract values and rules for them, proved sound over the model. -/
import Derived.Test.YtbdhocfaebchfaaOpLAbPure4
set_option linter.all false
set_option linter.unusedSimpArgs false
set_option linter.unusedVariables false
set_option linter.unnecessarySimpa false
section
/- Operations that only compute: conversions; all together. -/
namespace Go.Ab
open V
variable [Glob]
set_option linter.unusedSimpArgs false
set_option linter.unusedVariables false
set_option linter.unusedSectionVars false

section
variable {E : Env} {g : Ghost} {w : World} {N : Nat} {s : Operand → V D}

theorem flat_one {xs : List (V D)} (h : Uni 1 xs = true) (h1 : ∀ x ∈ xs, x.one = true) : flat xs = xs := by
  induction xs with
  | nil => rfl
  | cons x xs ih =>
    simp only [Uni, List.all_cons, Bool.and_eq_true] at h
    rw [flat_cons, cells_ne (h1 x (by simp)), ih h.2 (fun y hy => h1 y (by simp [hy]))]
    rfl

theorem bytes_mapM {xs : List (V D)} {l : List UInt8} (h : (xs.map V.er).mapM byteOfA = some l) :
    (∀ x ∈ xs, ∃ n, x = .int .u8 n) ∧ l = xs.map fun x => match x with | .int _ n => UInt8.ofNat n.toNat | _ => 0 := by
  induction xs generalizing l with
  | nil => simp at h; subst h; simp
  | cons x xs ih =>
    simp only [List.map_cons, List.mapM_cons, Option.bind_eq_bind, Option.bind_eq_some_iff, Option.pure_def, Option.some.injEq] at h
    obtain ⟨b, hb, l', hl', rfl⟩ := h
    obtain ⟨h1, rfl⟩ := ih hl'
    have hx : ∃ n, x = .int .u8 n ∧ b = UInt8.ofNat n.toNat := by
      unfold byteOfA at hb
      split at hb
      · rename_i n heq; simp only [Option.some.injEq] at hb; exact ⟨n, er_int heq, hb.symm⟩
      · simp at hb
    obtain ⟨n, rfl, rfl⟩ := hx
    refine ⟨fun y hy => ?_, by simp⟩
    rcases List.mem_cons.1 hy with rfl | hy
    · exact ⟨n, rfl⟩
    · exact h1 y hy

theorem bytesToString_loop {P : Program} {F : Value → ByteArray → Sem (ForInStep ByteArray)} (hF : ∀ n s, F (.int .u8 n) s = pure (ForInStep.yield (s.push (UInt8.ofNat n.toNat)))) :
    ∀ (ns : List Int) (acc : ByteArray), (forIn (ns.map fun n => Value.int .u8 n) acc F).run P w = .ok (ns.foldl (fun s n => s.push (UInt8.ofNat n.toNat)) acc) w := by
  intro ns
  induction ns with
  | nil => intro acc; rfl
  | cons n ns ih =>
    intro acc
    simp only [List.map_cons, List.forIn_cons, List.foldl_cons, hF]
    rw [run_bind (pure_run _ _)]
    exact ih _

theorem push_all (ns : List Int) : ∀ acc : ByteArray, (ns.foldl (fun s n => s.push (UInt8.ofNat n.toNat)) acc) = ⟨acc.data ++ (ns.map fun n => UInt8.ofNat n.toNat).toArray⟩ := by
  induction ns with
  | nil => intro acc; simp
  | cons n ns ih => intro acc; simp only [List.foldl_cons, ih, List.map_cons]; simp [ByteArray.push]

variable (hE : E.Ok)
include hE

theorem conv_pure (hs : ∀ x, Mem g w (s x) ∧ (s x).low N = true) {t d : TypeId} {x : Operand} {r : A} (h : convA E.T t d (s x).er = some r) :
    PureOk E g w N s (.convert t d x) r := by
  have hund : (E.T t).isSome = true → ∃ u, E.P.underlying t = some u := fun h => by
    obtain ⟨y, hy⟩ := Option.isSome_iff_exists.1 h
    exact Option.isSome_iff_exists.1 (hE t y hy).und
  suffices hh : ∃ v, Sc r v ∧ (Go.convert t d (V.conc g.φ (s x))).run E.P w = .ok v w by
    obtain ⟨v, hv, hr⟩ := hh
    exact pureOk_of_scalar hv hr (fun _ _ _ _ _ => rfl)
  unfold convA at h
  split at h
  · rename_i k k' n hd hx
    split at h
    · rename_i ht
      simp only [Option.some.injEq] at h; subst h
      obtain ⟨u, hu⟩ := hund ht
      rw [er_int hx]
      simp only [V.conc, Go.convert]
      rw [run_bind (run_underlying hu w), run_bind (run_underlying (und_int hE hd) w)]
      exact ⟨_, .int _ _, by cases u <;> rfl⟩
    · simp at h
  · rename_i b hd hx
    split at h
    · rename_i ht
      simp only [Option.some.injEq] at h; subst h
      obtain ⟨u, hu⟩ := hund ht
      rw [er_str hx]
      simp only [V.conc, Go.convert]
      rw [run_bind (run_underlying hu w), run_bind (run_underlying (und_str hE hd) w)]
      exact ⟨_, .str _, by cases u <;> rfl⟩
    · simp at h
  · rename_i xs own hd hx
    split at h
    · rename_i e ht
      split at h
      · rename_i hte
        obtain ⟨l, hl, rfl⟩ := Option.map_eq_some_iff.1 h
        obtain ⟨ys, dd, hy, rfl⟩ := er_sl hx
        obtain ⟨h1, rfl⟩ := bytes_mapM hl
        have hm := (hs x).1
        rw [hy] at hm
        simp only [Mem, MemL_all] at hm
        obtain ⟨hm1, hU, hes, hcap, hso⟩ := hm
        refine ⟨_, .str _, ?_⟩
        rw [hy]
        simp only [V.conc, Go.convert]
        rw [run_bind (run_underlying (und_sl hE ht) w), run_bind (run_underlying (und_str hE hd) w)]
        simp only []
        rw [run_bind (run_underlying (und_int hE hte) w)]
        simp only []
        cases hda : dd.a with
        | none =>
          rw [hda] at hso
          simp only at hso
          rw [hso.1]
          simp only [slA, hda]
          cases dd.wa <;> rfl
        | some p =>
          obtain ⟨b, o⟩ := p
          rw [hda] at hso
          simp only at hso
          have hone : ∀ y ∈ ys, y.one = true := fun y hy => by obtain ⟨n, rfl⟩ := h1 y hy; rfl
          have hfl : flat ys = ys := by
            rw [show flat ys = ys.flatMap V.cells from rfl]
            have : ∀ y ∈ ys, y.cells = [y] := fun y hy => cells_ne (hone y hy)
            clear hl h hso hU hcap hm1 hy hx h1 hone
            induction ys with
            | nil => rfl
            | cons y ys ih => simp only [List.flatMap_cons]; rw [this y (by simp), ih (fun z hz => this z (by simp [hz]))]; rfl
          have hc := hso.1
          rw [hfl] at hc
          obtain ⟨ns, hns⟩ : ∃ ns : List Int, ys = ns.map fun n => .int .u8 n := by
            clear hl h hso hU hcap hm1 hy hx hone hfl hc
            induction ys with
            | nil => exact ⟨[], rfl⟩
            | cons y ys ih =>
              obtain ⟨n, hn⟩ := h1 y (by simp)
              obtain ⟨ns, hns⟩ := ih (fun z hz => h1 z (by simp [hz]))
              exact ⟨n :: ns, by rw [hn, hns]; rfl⟩
          subst hns
          simp only [slA, hda, Go.Conv.bytesToString]
          rw [run_bind (loadCells_run hc.w)]
          have hl2 : ((ns.map fun n => (V.int .u8 n : V D)).map (V.conc g.φ)).toArray = (ns.map fun n => Value.int .u8 n).toArray := by
            simp [V.conc, Function.comp_def]
          rw [hl2]
          rw [List.forIn_toArray]
          rw [run_bind (bytesToString_loop (fun n s => rfl) ns ByteArray.empty)]
          simp only [pure_run, push_all]
          simp [Function.comp_def]
      · simp at h
    · simp at h
  · simp at h

theorem pure_sound (hs : ∀ x, Mem g w (s x) ∧ (s x).low N = true) {o : Op} {r : A} (h : pureA E o (fun x => (s x).er) = some r) : PureOk E g w N s o r := by
  unfold pureA at h
  split at h
  · exact pick_pure hs h
  · exact nilCheck_pure hs h
  · exact bin_pure hE h
  · exact un_pure h
  · exact conv_pure hE hs h
  · exact fieldAddr_pure hE hs h
  · exact field_pure hE hs h
  · exact indexAddr_pure hE hs h
  · exact index_pure hE hs h
  · exact slice_pure hE hs h
  · exact makeInterface_pure hE hs h
  · exact makeFunc_pure hs h
  · exact extract_pure hs h
  · split at h
    · exact len_pure hE (by assumption) (by assumption) h
    · simp at h
  · exact minmax_pure (mx := false) h
  · exact minmax_pure (mx := true) h
  · simp at h
end
end Go.Ab
end
