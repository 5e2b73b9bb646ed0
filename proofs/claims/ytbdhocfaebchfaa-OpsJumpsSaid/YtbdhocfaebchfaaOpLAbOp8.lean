/- Abstract values and rules for them, proved sound over the model. -/
import Derived.Test.YtbdhocfaebchfaaOpLAbOp7
set_option linter.all false
set_option linter.unusedSimpArgs false
set_option linter.unusedVariables false
set_option linter.unnecessarySimpa false
section
/- append; texts as bytes; parts of several results. -/
namespace Go.Ab
open V
variable [Glob]
set_option linter.unusedSimpArgs false
set_option linter.unusedVariables false
set_option linter.unusedSectionVars false

theorem not_int (d : TypeDesc) : (∀ k, d ≠ .int k) → (match d with | .int _ => true | _ => false) = false := by
  cases d <;> intro h <;> first | rfl | exact absurd rfl (h _)

theorem growBy_le (n : Nat) (hn : 256 ≤ n) : ∀ r c, c ≤ 2 * n → c < n ∨ c ≤ 2 * n → Go.Builtin.growBy n r c ≤ 2 * n := by
  intro r
  induction r with
  | zero => intro c h _; exact h
  | succ r ih =>
    intro c h _
    simp only [Go.Builtin.growBy]
    split
    · exact h
    · exact ih _ (by omega) (.inr (by omega))
theorem nextslicecap_le (need cap : Nat) (h : cap < need) : Go.Builtin.nextslicecap need cap ≤ 2 * need := by
  unfold Go.Builtin.nextslicecap
  split
  · omega
  · split
    · omega
    · exact growBy_le need (by omega) _ _ (by omega) (.inr (by omega))

section
variable {E : Env} {g : Ghost} {w : World} {fr : Fr} {vs pre : List (V D)} {Hs : List (Ob D)} {st : St} {a : Act} (hE : E.Ok)
include hE

theorem firstCells_run {xs : List (V D)} {own : Option Nat} {d : D} {size : Nat} (hm : Mem g w (.sl xs own d)) (hU : Uni size xs = true) :
    (Go.Builtin.firstCells size xs.length (V.conc g.φ (.sl xs own d))).run E.P w = .ok ((flat xs).map (V.conc g.φ)).toArray w := by
  simp only [Mem, MemL_all] at hm
  obtain ⟨_, hU', hes, hcap, hs⟩ := hm
  simp only [V.conc]
  cases hd : d.a with
  | none => rw [hd] at hs; simp only at hs; rw [hs.1]; simp only [slA, hd, List.length_nil]; cases d.wa <;> simp only [Go.Builtin.firstCells, Nat.zero_mul] <;> rfl
  | some p =>
    obtain ⟨b, o⟩ := p
    rw [hd] at hs
    simp only at hs
    simp only [slA, hd, Go.Builtin.firstCells]
    rw [← flat_length hU]
    exact loadCells_run hs.1.w

theorem append_core {xs ys : List (V D)} {k : Nat} {d : D} {X : Value} {t tx : TypeId} {e : TypeId} {u : Ty} (hd : dOf E.T t = .sl e) (hT : E.T e = some u) (htx : isSrc (dOf E.T tx) = true)
    (hR : Rel fr g (.sl xs (some k) d :: (ys ++ vs)) Hs w) (hUx : Uni u.size xs = true) (hUy : Uni u.size ys = true) (hok : appOk u (xs.length + ys.length) = true) (hk : k ≤ xs.length)
    (h1y : ∀ c ∈ flat ys, solid c = true) (h1x : ∀ c ∈ flat xs, solid c = true)
    (hlen : ∀ w, (Go.Builtin.lenOf X).run E.P w = .ok ys.length w) (hfc : ∀ n, (Go.Builtin.firstCells u.size ys.length X).run E.P { w with drawn := n } = .ok ((flat ys).map (V.conc g.φ)).toArray { w with drawn := n }) (ty : TypeId) :
    ∃ F d' w', Rel fr ⟨g.φ, F⟩ (.sl (xs ++ ys) (some k) d' :: vs) Hs w' ∧
      (Go.Builtin.append_ #[t, tx] ty #[V.conc g.φ (.sl xs (some k) d), X]).run E.P w = .ok (V.conc g.φ (.sl (xs ++ ys) (some k) d')) w' := by
  simp only [appOk, Bool.and_eq_true, decide_eq_true_eq] at hok
  obtain ⟨⟨⟨⟨o1, o2⟩, o3⟩, o4⟩, o5⟩ := hok
  have hm := hR.mem (.sl xs (some k) d) (by simp)
  have hm' := hm
  simp only [Mem, MemL_all] at hm
  obtain ⟨hm1, hU', hes, hcap, hs⟩ := hm
  obtain ⟨i, hi, hsz, hby, _⟩ := (hE e u hT).info
  have hti : ∀ w, (typeInfo e).run E.P w = .ok i w := fun w => by simp [typeInfo, program, hi, Sem.run, Bind.bind, Sem.bind, Pure.pure]
  have hundx : E.P.underlying tx = some .string ∨ ∃ e', E.P.underlying tx = some (.slice e') := by
    have hne : dOf E.T tx ≠ .other := by intro h; rw [h] at htx; simp [isSrc] at htx
    obtain ⟨y, hy, hyd⟩ := dOf_int rfl hne
    have h1 := (hE tx y hy).und
    obtain ⟨dx, hdx⟩ := Option.isSome_iff_exists.1 h1
    have h2 := (hE tx y hy).desc
    rw [hdx, hyd] at h2
    rw [← h2] at htx
    rw [hdx]
    cases dx <;> simp_all [tyOf, isSrc]
  have hse : xs ≠ [] → d.es = u.size := fun hne => by
    obtain ⟨x, hx⟩ := List.exists_mem_of_ne_nil xs hne
    exact (Uni_get hU' hx).symm.trans (Uni_get hUx hx)
  simp only [Go.Builtin.append_, List.getElem?_toArray, List.getElem?_cons_zero, List.getElem?_cons_succ]
  rw [run_bind (run_underlying (und_sl hE hd) w)]
  simp only [V.conc]
  rw [run_bind (run_sizeOf hE hT w)]
  rcases hundx with hdx | ⟨e', hdx⟩
  all_goals
    rw [run_bind (run_underlying hdx w)]
    simp only []
    rw [run_bind (pure_run _ _)]
    simp only [Bool.false_eq_true, if_false]
    rw [run_bind (hlen w)]
    have hRs : Rel fr g (.sl xs (some k) d :: (ys ++ vs)) Hs w := hR
    by_cases hfit : xs.length + ys.length ≤ d.cap
    · -- there is room
      rw [if_pos hfit]
      simp only [Bool.not_false, if_true]
      rw [run_bind (show (Go.Builtin.firstCells u.size ys.length X).run E.P w = .ok ((flat ys).map (V.conc g.φ)).toArray w from hfc w.drawn)]
      cases hda : d.a with
      | none =>
        rw [hda] at hs
        simp only at hs
        obtain ⟨rfl, hc0⟩ := hs
        have hy0 : ys = [] := List.eq_nil_of_length_eq_zero (by simp only [List.length_nil] at hfit; omega)
        subst hy0
        refine ⟨g.F, d, w, hR, ?_⟩
        simp only [V.conc, slA, hda]
        cases d.wa <;> rfl
      | some p =>
        obtain ⟨b, o⟩ := p
        have hUy' : Uni d.es ys = true := by
          by_cases hx : xs = []
          · rw [hda] at hs
            simp only at hs
            have hc0 := hs.2.2.2.2.1 hx
            have hy0 : ys = [] := List.eq_nil_of_length_eq_zero (by omega)
            rw [hy0]; rfl
          · rw [hse hx]; exact hUy
        obtain ⟨c, ty', fz, hheap, hfz, hsize, hgrow⟩ := hR.growSlice hda hUy' h1y hfit
        refine ⟨g.F, d, _, hgrow, ?_⟩
        have hmulx : xs.length * u.size = xs.length * d.es := by
          by_cases hx : xs = []
          · simp [hx]
          · rw [hse hx]
        simp only [slA, hda, add_none, hmulx]
        rw [run_bind (storeCells_run (P := E.P) ((flat ys).map (V.conc g.φ)) w b (o + xs.length * d.es) 0 c ty' fz hheap hfz (by simpa using hsize) (fun v hv => by
          obtain ⟨c', hc', rfl⟩ := List.mem_map.1 hv
          exact solid_oneCell (h1y c' hc')))]
        simp only [Nat.add_zero, V.conc, slA, hda, List.length_append]
        rfl
    · -- a new array
      rw [if_neg hfit]
      rw [run_bind (hti w), if_neg (by simp [hby]; omega)]
      rw [run_bind (hti w)]
      have hcapb : ¬ Go.Builtin.nextslicecap (xs.length + ys.length) d.cap * i.bytes > 2 ^ 48 := by
        have h1 := nextslicecap_le (xs.length + ys.length) d.cap (by omega)
        have h2 : Go.Builtin.nextslicecap (xs.length + ys.length) d.cap * i.bytes ≤ 2 * (xs.length + ys.length) * i.bytes := Nat.mul_le_mul_right _ h1
        rw [hby] at h2 ⊢
        rw [Nat.mul_assoc] at h2
        omega
      rw [if_neg hcapb]
      obtain ⟨nc, hnc, hch⟩ : ∃ nc, xs.length + ys.length ≤ nc ∧ (choose (.appendCap (xs.length + ys.length) d.cap e)).run E.P w = .ok nc { w with drawn := w.drawn + 1 } := by
        refine ⟨_, ?_, rfl⟩
        simp only [Question.cut]; omega
      rw [run_bind hch]
      rw [run_bind (hti _)]
      rw [run_bind (show (askRoom (nc * i.bytes)).run E.P { w with drawn := w.drawn + 1 } = .ok () { w with drawn := w.drawn + 1 } by unfold askRoom roomBytes; split <;> rfl)]
      have hR1 := hR.drew (w.drawn + 1)
      have hfx := firstCells_run hE (hR1.mem (.sl xs (some k) d) (by simp)) hUx
      rw [run_bind (show (Go.Builtin.firstCells u.size xs.length (.slice (slA d) xs.length d.cap)).run E.P { w with drawn := w.drawn + 1 } = .ok ((flat xs).map (V.conc g.φ)).toArray { w with drawn := w.drawn + 1 } by simpa only [V.conc] using hfx)]
      simp only [Bool.not_false, if_true]
      rw [run_bind (hfc (w.drawn + 1))]
      obtain ⟨z, hz', hzr⟩ := zero_run hE hT { w with drawn := w.drawn + 1 }
      obtain ⟨z1, z2, z3⟩ := zero_cells (g := g) hE hz' o5
      rw [run_bind hzr]
      have hzs : z.cells.size = u.size := by rw [z1]; simp; rw [← o4, ← z2, List.length_map]
      have hrest : (Go.Builtin.zeroCells z.cells (nc - (xs.length + ys.length))).size = (nc - (xs.length + ys.length)) * u.size := by simp [Go.Builtin.zeroCells, hzs]
      have hR2 : Rel fr g ((xs ++ ys) ++ vs) Hs { w with drawn := w.drawn + 1 } := by rw [List.append_assoc]; exact hR1.spreadSl
      obtain ⟨F, hF⟩ := hR2.newSlice (own := some k) (es := u.size) (cap := nc) (rest := Go.Builtin.zeroCells z.cells (nc - (xs.length + ys.length))) (ty := e) (by rw [Uni_append, hUx, hUy]; rfl) o1
        (fun c hc => by rw [flat_append] at hc; exact (List.mem_append.1 hc).elim (h1x c) (h1y c)) (by simpa using hnc) (by rw [hrest, ← Nat.add_mul]; simp; congr 1; omega)
        ⟨by simp; omega, fun hx => by have := congrArg List.length hx; rw [List.length_append, List.length_nil] at this; omega⟩
      refine ⟨F, _, _, hF, ?_⟩
      simp only [newRow, newObj, V.conc, Option.map_some, List.length_append, flat_append, List.map_append]
      rw [show (((flat xs).map (V.conc g.φ)).toArray ++ ((flat ys).map (V.conc g.φ)).toArray ++ Go.Builtin.zeroCells z.cells (nc - (xs.length + ys.length))) =
        (((flat xs).map (V.conc g.φ) ++ (flat ys).map (V.conc g.φ)).toArray ++ Go.Builtin.zeroCells z.cells (nc - (xs.length + ys.length))) by simp]
      rfl

theorem lenOf_sl {xs : List (V D)} {own : Option Nat} {d : D} (w : World) : (Go.Builtin.lenOf (V.conc g.φ (.sl xs own d))).run E.P w = .ok xs.length w := rfl

omit hE in
theorem byte_facts (b : ByteArray) : (∀ v ∈ (b.data.toList.map fun x => (.int .u8 x.toNat : V D)), v.fl = [] ∧ v.one = true ∧ (∀ g w, Mem g w v) ∧ ∀ n, v.low n = true) ∧
    flat (b.data.toList.map fun x => (.int .u8 x.toNat : V D)) = b.data.toList.map (fun x => (.int .u8 x.toNat : V D)) ∧ Uni 1 (b.data.toList.map fun x => (.int .u8 x.toNat : V D)) = true := by
  refine ⟨fun v hv => ?_, ?_, ?_⟩
  · obtain ⟨x, _, rfl⟩ := List.mem_map.1 hv
    exact ⟨rfl, rfl, fun _ _ => by simp [Mem], fun _ => rfl⟩
  · induction b.data.toList with
    | nil => rfl
    | cons x l ih => simp only [List.map_cons, flat_cons, ih]; rfl
  · simp only [Uni, List.all_map, List.all_eq_true]; intro x _; rfl

theorem append_sound (hR : Rel fr g vs Hs w) (hA : At fr E.n g.φ st vs Hs a) {t tx : TypeId} {s x : Operand} {r : A} {st1 : St} (ty : TypeId)
    (h : appendA E t tx s x st = some (r, st1)) : OpOk E fr [] a w r st1 (Go.Builtin.append_ #[t, tx] ty #[a.eval s, a.eval x]) := by
  unfold appendA at h
  split at h
  · rename_i e hd
    split at h
    · rename_i u hT
      split at h
      · rename_i xs k st2 huse
        obtain ⟨sv, vs1, k1, k2, k3, k4⟩ := use_sound (pre := []) hR hA s
        rw [huse] at k2 k3
        simp only [List.nil_append] at k1 k2 k3
        obtain ⟨xs', d, rfl, rfl⟩ := er_sl k3
        obtain ⟨sx, vs2, l1, l2, l3, l4⟩ := use_sound (pre := [.sl xs' (some k) d]) k1 k2 x
        split at h
        · rename_i ys own st3 husex
          rw [husex] at l2 l3
          simp only at l2 l3
          obtain ⟨ys', d', rfl, rfl⟩ := er_sl l3
          split at h
          · rename_i hc
            obtain ⟨c1, c2, c3, c4, c5⟩ := hc
            simp only [Option.some.injEq, Prod.mk.injEq] at h
            obtain ⟨rfl, rfl⟩ := h
            rw [er_Uni] at c3 c4
            simp only [List.length_map] at c2 c5
            have hmx := l1.mem (.sl xs' (some k) d) (by simp)
            have hmy := l1.mem (.sl ys' own d') (by simp)
            have hm1 := hmx; have hm2 := hmy
            simp only [Mem, MemL_all] at hm1 hm2
            have hone : ∀ (zs : List (V D)) (o : Option Nat) (dd : D), SlOk g w zs o dd → ∀ c ∈ flat zs, solid c = true := by
              intro zs o dd hz c hc
              obtain ⟨_, _, _, hs⟩ := hz
              cases hda : dd.a with
              | none => rw [hda] at hs; simp only at hs; rw [hs.1] at hc; simp [flat] at hc
              | some p =>
                rw [hda] at hs
                obtain ⟨j, hj⟩ := List.mem_iff_getElem?.1 hc
                exact (hs.1 j c hj).1
            have hR2 : Rel fr g (.sl xs' (some k) d :: (ys' ++ vs2)) Hs w := by
              refine l1.spreadSl.weaken ?_ ?_ (fun b => by simp only [flL, flL_append, List.count_append]; omega)
              · intro v hv
                simp only [List.mem_cons, List.mem_append] at hv
                exact l1.spreadSl.mem v (by simp only [List.mem_append, List.mem_cons, List.not_mem_nil, or_false]; rcases hv with hv | hv | hv <;> simp [hv])
              · intro v hv
                simp only [List.mem_cons, List.mem_append] at hv
                exact l1.spreadSl.low v (by simp only [List.mem_append, List.mem_cons, List.not_mem_nil, or_false]; rcases hv with hv | hv | hv <;> simp [hv])
            obtain ⟨F, d2, w2, m1, m2⟩ := append_core (X := V.conc g.φ (.sl ys' own d')) hE hd hT c1 hR2 c3 c4 c5 c2 (hone _ _ _ hm2.2) (hone _ _ _ hm1.2) (fun w => lenOf_sl hE w)
              (fun n => firstCells_run hE ((l1.drew n).mem (.sl ys' own d') (by simp)) c4) ty
            refine ⟨⟨g.φ, F⟩, _, vs2, Hs, w2, m1, l2, by simp [V.er, erL_map], ?_⟩
            rw [← k4, ← l4]
            exact m2
          · simp at h
        · rename_i b st3 husex
          rw [husex] at l2 l3
          simp only at l2 l3
          have hsx := er_str l3
          subst hsx
          split at h
          · rename_i hc
            obtain ⟨c1, c2, c3, c4, c5, c6⟩ := hc
            simp only [Option.some.injEq, Prod.mk.injEq] at h
            obtain ⟨rfl, rfl⟩ := h
            rw [er_Uni] at c3
            simp only [List.length_map] at c2 c6
            obtain ⟨b1, b2, b3⟩ := byte_facts b
            have hmx := l1.mem (.sl xs' (some k) d) (by simp)
            simp only [Mem, MemL_all] at hmx
            have hone : ∀ c ∈ flat xs', solid c = true := by
              intro c hc
              obtain ⟨_, _, _, hs⟩ := hmx.2
              cases hda : d.a with
              | none => rw [hda] at hs; simp only at hs; rw [hs.1] at hc; simp [flat] at hc
              | some p =>
                rw [hda] at hs
                obtain ⟨j, hj⟩ := List.mem_iff_getElem?.1 hc
                exact (hs.1 j c hj).1
            have hR2 : Rel fr g (.sl xs' (some k) d :: ((b.data.toList.map fun x => (.int .u8 x.toNat : V D)) ++ vs2)) Hs w := by
              refine l1.weaken ?_ ?_ ?_
              · intro v hv
                simp only [List.mem_cons, List.mem_append] at hv
                rcases hv with hv | hv | hv
                · exact l1.mem v (by simp [hv])
                · exact (b1 v hv).2.2.1 g w
                · exact l1.mem v (by simp [hv])
              · intro v hv
                simp only [List.mem_cons, List.mem_append] at hv
                rcases hv with hv | hv | hv
                · exact l1.low v (by simp [hv])
                · exact (b1 v hv).2.2.2 _
                · exact l1.low v (by simp [hv])
              · intro c
                have : flL (b.data.toList.map fun x => (.int .u8 x.toNat : V D)) = [] := by
                  rw [flL_flatMap, List.flatMap_eq_nil_iff]; exact fun v hv => (b1 v hv).1
                simp only [flL, flL_append, this, fl, List.nil_append, List.cons_append, List.count_append, List.count_nil]; omega
            have hlb : (b.data.toList.map fun x => (.int .u8 x.toNat : V D)).length = b.size := by simp
            obtain ⟨F, d2, w2, m1, m2⟩ := append_core (X := .string b) (ys := b.data.toList.map fun x => (.int .u8 x.toNat : V D)) hE hd hT c1 hR2 c3 (by rw [c4]; exact b3) (by rw [hlb]; exact c6) c2
              (by rw [b2]; intro c hc; obtain ⟨x, _, rfl⟩ := List.mem_map.1 hc; rfl) hone (fun w => by rw [hlb]; rfl)
              (fun n => by
                rw [hlb, b2]
                simp only [Go.Builtin.firstCells]
                show Result.ok _ _ = _
                congr 1
                apply Array.ext'
                simp [V.conc, Function.comp_def]) ty
            refine ⟨⟨g.φ, F⟩, _, vs2, Hs, w2, m1, l2, by simp [V.er, erL_map, byteA, Function.comp_def], ?_⟩
            rw [← k4, ← l4]
            exact m2
          · simp at h
        · simp at h
      · simp at h
    · simp at h
  · simp at h
end
end Go.Ab
end
