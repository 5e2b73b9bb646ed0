/- Abstract values and rules for them, proved sound over the model. -/
import Derived.Test.YtbdhocfaebchfaaOpLAbOp9
import Derived.Tactics
set_option linter.all false
set_option linter.unusedSimpArgs false
set_option linter.unusedVariables false
set_option linter.unnecessarySimpa false
section
/- Control; calls; functions. -/
namespace Go.Ab
open V
variable [Glob]
set_option linter.unusedSimpArgs false
set_option linter.unusedVariables false
set_option linter.unusedSectionVars false

/-- How a piece of code is left. -/
inductive X where
  | normal
  | exit (id : Nat)
  | goto (l : Nat)
  | ret

def X.of : X → Exit
  | .normal => .normal
  | .exit id => .exit id
  | .goto l => .goto l
  | .ret => .ret

def Snd (E : Env) (fr : Fr) (Q : X → St → Prop) (e : Exit) (a : Act) (w : World) : Prop :=
  ∃ x st g vs Hs, e = x.of ∧ Rel fr g vs Hs w ∧ At fr E.n g.φ st vs Hs a ∧ Q x st

/-- The fence that lets all in, in the round rd. -/
def fen (rd : Option Nat) : Fence := { Fence.wide with round := rd }

/-- The frame behind a loop over a function, which has left the block d for its deferred calls. -/
def Fr.more (fr : Fr) (g : Ghost) (N : Nat) (w : World) (d : Nat) : Fr :=
  { w0 := w, F0 := g.F, X := fun b => fr.X b ∨ b = d, φ0 := g.φ, N0 := N, rd := fr.rd, ds := d :: fr.ds }

/-- What an activation's loops over functions make of its frame. -/
inductive FrX (fr : Fr) : Fr → Prop where
  | refl : FrX fr fr
  | step {fr1 : Fr} {g : Ghost} {vs : List (V D)} {Hs : List (Ob D)} {w : World} {d : Nat} (h : FrX fr fr1) (hR : Rel fr1 g vs Hs w) (hd : w.heap[d]? = some (.deferred (some [])))
    (hF : g.F d = 0) (hX : ¬ fr1.X d) : FrX fr (fr1.more g Hs.length w d)

/-- The same, where loops over functions may have come between. -/
def Snx (E : Env) (fr : Fr) (Q : X → St → Prop) (e : Exit) (a : Act) (w : World) : Prop := ∃ fr', FrX fr fr' ∧ Snd E fr' Q e a w

theorem Snd.snx {E : Env} {fr : Fr} {Q : X → St → Prop} (e : Exit) (a : Act) (w : World) (h : Snd E fr Q e a w) : Snx E fr Q e a w := ⟨fr, .refl, h⟩

theorem FrX.trans {f1 f2 f3 : Fr} (h : FrX f1 f2) (k : FrX f2 f3) : FrX f1 f3 := by
  induction k with
  | refl => exact h
  | step _ hR hd hF hX ih => exact .step ih hR hd hF hX
theorem FrX.rd {f1 f2 : Fr} (h : FrX f1 f2) : f2.rd = f1.rd := by
  induction h with
  | refl => rfl
  | step _ _ _ _ _ ih => exact ih

/-- From the abstract state st on the code comes to its end, and Q holds there. -/
def AW (E : Env) (c : Code) (Q : X → St → Prop) (st : St) : Prop :=
  ∀ fr g vs Hs a w, (E.rnd = false → fr.rd = none) → Rel fr g vs Hs w → At fr E.n g.φ st vs Hs a → c.wpIn (fen fr.rd) 0 E.P (Snx E fr Q) a w

def thenQ (K : St → Prop) (Q : X → St → Prop) : X → St → Prop
  | .normal, st => K st
  | x, st => Q x st

def blockQ (id : Nat) (Q : X → St → Prop) : X → St → Prop
  | .exit id', st => if id' = id then Q .normal st else Q (.exit id') st
  | x, st => Q x st

/-! frames -/
section frames
variable {fr : Fr} {g g' : Ghost} {vs as rs : List (V D)} {Hs Hs' : List (Ob D)} {w w' : World}

def Fr.of (fr : Fr) (g : Ghost) (vs : List (V D)) (N : Nat) (w : World) : Fr :=
  { w0 := w, F0 := g.F, X := fun b => fr.X b ∨ b ∈ flL vs, φ0 := g.φ, N0 := N }

/-- The tables lie where they should: still. -/
theorem Rel.gok (h : Rel fr g vs Hs w) {X : Nat → Prop} {φ : Nat → Nat} {N : Nat} {rd : Option Nat} {ds : List Nat} : GOk { w0 := w, F0 := g.F, X := X, φ0 := φ, N0 := N, rd := rd, ds := ds } := by
  intro b cs ht
  obtain ⟨h1, h2⟩ := h.gl b cs ht
  exact ⟨Nat.le_trans h1 (h.frF b), fun j c hj => (h.frC b j (Nat.lt_of_lt_of_le (List.getElem?_eq_some_iff.1 hj).1 h1)).trans (h2 j c hj)⟩

theorem Rel.frame (h : Rel fr g (as ++ vs) Hs w) : Rel (fr.of g vs Hs.length w) g as Hs w := by
  have hd : ∀ b, b ∈ flL as ∨ b ∈ flH Hs → b ∉ flL vs := by
    intro b hb hv
    have h1 := h.uniq b
    have h2 := List.count_pos_iff.2 hv
    simp only [flL_append, List.count_append] at h1
    rcases hb with hb | hb <;> have := List.count_pos_iff.2 hb <;> omega
  have hsub : ∀ b, b ∈ flL as ∨ b ∈ flH Hs → b ∈ flL (as ++ vs) ∨ b ∈ flH Hs := fun b hb => hb.imp (fun hb => by rw [flL_append]; simp [hb]) id
  exact {
    mem := fun v hv => h.mem v (by simp [hv])
    low := fun v hv => h.low v (by simp [hv])
    hmem := fun i o hio => by
      obtain ⟨h1, h2, h3, h4⟩ := h.hmem i o hio
      refine ⟨h1, h2, h3, fun hx => hx.elim h4 fun hv => ?_⟩
      exact (h.own _ (.inl (by rw [flL_append]; simp [hv]))).2 i (List.getElem?_eq_some_iff.1 hio).1 rfl
    inj := h.inj
    uniq := fun b => by have := h.uniq b; simp only [flL_append, List.count_append] at this; omega
    own := fun b hb => ⟨fun hx => hx.elim (h.own b (hsub b hb)).1 (hd b hb), (h.own b (hsub b hb)).2⟩
    frX := fun b hb => ⟨rfl, rfl, hb.elim (fun hx => by have := (h.frX b hx).2.2; have := h.frS.1; show b < w.heap.size; omega) (fun hv => h.blk_lt (.inl (by rw [flL_append]; simp [hv])))⟩
    frF := fun _ => Nat.le_refl _
    frC := fun _ _ _ => rfl
    frS := ⟨Nat.le_refl _, rfl, rfl, rfl⟩
    frφ := ⟨Nat.le_refl _, fun _ _ => rfl⟩
    new := h.new
    gl := h.gok }

theorem Rel.unframe (h : Rel fr g (as ++ vs) Hs w) (k : Rel (fr.of g vs Hs.length w) g' rs Hs' w') : Rel fr g' (rs ++ vs) Hs' w' := by
  have hle : Hs.length ≤ Hs'.length := k.frφ.1
  have hvx : ∀ b, b ∈ flL vs → (fr.of g vs Hs.length w).X b := fun b hb => .inr hb
  have hnot : ∀ b, b ∈ flL vs → b ∉ flL rs ∧ b ∉ flH Hs' := fun b hb => ⟨fun hr => (k.own b (.inl hr)).1 (hvx b hb), fun hr => (k.own b (.inr hr)).1 (hvx b hb)⟩
  exact {
    mem := fun v hv => by
      rcases List.mem_append.1 hv with hv | hv
      · exact k.mem v hv
      · refine Mem_step (g := g) (g' := g') (w := w) (w' := w') k.frF k.frC (n := Hs.length) k.frφ.2 v (fun b hb => ?_) (h.low v (by simp [hv])) (h.mem v (by simp [hv]))
        have := k.frX b (hvx b (flL_mem.2 ⟨v, hv, hb⟩))
        exact ⟨this.1, this.2.1⟩
    low := fun v hv => by
      rcases List.mem_append.1 hv with hv | hv
      · exact k.low v hv
      · exact low_mono (h.low v (by simp [hv])) hle
    hmem := fun i o hio => by
      obtain ⟨h1, h2, h3, h4⟩ := k.hmem i o hio
      exact ⟨h1, h2, h3, fun hx => h4 (.inl hx)⟩
    inj := k.inj
    uniq := fun b => by
      simp only [flL_append, List.count_append]
      by_cases hb : b ∈ flL vs
      · have h1 := List.count_eq_zero.2 (hnot b hb).1
        have h2 := List.count_eq_zero.2 (hnot b hb).2
        have h3 := h.uniq b
        simp only [flL_append, List.count_append] at h3
        omega
      · have h1 := List.count_eq_zero.2 hb
        have := k.uniq b
        omega
    own := fun b hb => by
      by_cases hv : b ∈ flL vs
      · refine ⟨(h.own b (.inl (by rw [flL_append]; simp [hv]))).1, fun i hi e => ?_⟩
        obtain ⟨_, _, _, h4⟩ := k.hmem i Hs'[i] (by simp [hi])
        exact h4 (by rw [e]; exact hvx b hv)
      · have hb' : b ∈ flL rs ∨ b ∈ flH Hs' := hb.imp (fun hb => by rw [flL_append] at hb; exact (List.mem_append.1 hb).resolve_right hv) id
        exact ⟨fun hx => (k.own b hb').1 (.inl hx), (k.own b hb').2⟩
    frX := fun b hb => by
      obtain ⟨h1, h2, h3⟩ := h.frX b hb
      obtain ⟨k1, k2, k3⟩ := k.frX b (.inl hb)
      exact ⟨k1.trans h1, k2.trans h2, h3⟩
    frF := fun b => Nat.le_trans (h.frF b) (k.frF b)
    frC := fun b i hi => (k.frC b i (Nat.lt_of_lt_of_le hi (h.frF b))).trans (h.frC b i hi)
    frS := by
      obtain ⟨h1, h2, h3, h4⟩ := h.frS
      obtain ⟨k1, k2, k3, k4⟩ := k.frS
      exact ⟨Nat.le_trans h1 k1, k2.trans h2, k3.trans h3, k4.trans h4⟩
    frφ := ⟨Nat.le_trans h.frφ.1 hle, fun i hi => (k.frφ.2 i (Nat.lt_of_lt_of_le hi h.frφ.1)).trans (h.frφ.2 i hi)⟩
    new := k.new
    gl := h.gl }
end frames

theorem AC.mono {P : Program} {f : FuncId} {args : List A} {H : Heap} {Q Q' : A → Heap → Prop} (h : AC P f args H Q) (hq : ∀ r H, Q r H → Q' r H) : AC P f args H Q' := by
  intro fr g as Hs w hR h1 h2
  have := h fr g as Hs w hR h1 h2
  have hp : ∀ e w, CPost fr Q e w → CPost fr Q' e w := fun e w ⟨g, r, Hs, a1, a2, a3⟩ => ⟨g, r, Hs, a1, a2, hq _ _ a3⟩
  split at this
  · intro cs
    obtain ⟨e, w', f', k1, k2⟩ := this cs
    exact ⟨e, w', f', hp _ _ k1, k2⟩
  · exact hp _ _ this
  · exact this

theorem AY.mono {P : Program} {l : Nat} {args : List A} {H : Heap} {Q Q' : A → Heap → Prop} (h : AY P l args H Q) (hq : ∀ r H, Q r H → Q' r H) : AY P l args H Q' := by
  intro fr g as Hs w hR h1 h2
  have := h fr g as Hs w hR h1 h2
  split at this
  · exact this.mono fun e w ⟨g, r, Hs, a1, a2, a3⟩ => ⟨g, r, Hs, a1, a2, hq _ _ a3⟩
  · exact this

section
variable {E : Env} (hE : E.Ok)
include hE

omit hE in
theorem wpIn_of {rd : Option Nat} {o : Oper} {a : Act} {w : World} {next : Act → World → Prop} {Q : Exit → Act → World → Prop} (hd : ∀ c, o.op ≠ .defer c)
    (h : o.uponIn (fen rd) 0 E.P a next Q ((execOp a.eval o).run E.P w)) : o.wpIn (fen rd) 0 E.P a w next Q :=
  ⟨fun _ _ => trivial, by rw [Oper.semAt_eq _ _ _ hd]; exact h⟩
omit hE in
theorem callsIn_fen {rd : Option Nat} {n : Nat} {P : Program} {f : FuncId} {args : Array Value} {w : World} {R : Ending → World → Prop} (h : Calls P f args w R) : CallsIn (fen rd) n P f args w R :=
  callsIn_wide.2 h
omit hE in
theorem roundIn_fen {rd : Option Nat} {P : Program} {l : Nat} {f : FuncId} {tmps : Array Value} {assign body : Code} {w : World} {R : Ending → World → Prop}
    (h : RoundIn Fence.wide 0 P l f tmps assign body w R) : RoundIn (fen rd) 0 P l f tmps assign body w R := h
omit hE in
theorem stepA_nodefer {o : Oper} {st st1 : St} (h : stepA E o st = some st1) (c : Call) : o.op ≠ .defer c := by
  intro e; simp [stepA, e, opA, pureA] at h

theorem useL_sound {fr : Fr} {g : Ghost} {Hs : List (Ob D)} {w : World} {a : Act} : ∀ (xs : List Operand) (pre vs : List (V D)) (st : St), Rel fr g (pre ++ vs) Hs w → At fr E.n g.φ st vs Hs a →
    ∃ svs vs1, Rel fr g (svs ++ (pre ++ vs1)) Hs w ∧ At fr E.n g.φ (useL xs st).2 vs1 Hs a ∧ svs.map V.er = (useL xs st).1 ∧ svs.map (V.conc g.φ) = xs.map a.eval := by
  intro xs
  induction xs with
  | nil => intro pre vs st hR hA; exact ⟨[], vs, hR, hA, rfl, rfl⟩
  | cons x xs ih =>
    intro pre vs st hR hA
    obtain ⟨sv, vs1, k1, k2, k3, k4⟩ := use_sound hR hA x
    obtain ⟨svs, vs2, l1, l2, l3, l4⟩ := ih (sv :: pre) vs1 _ k1 k2
    refine ⟨sv :: svs, vs2, ?_, l2, by simp only [List.map_cons, k3, l3]; rfl, by simp only [List.map_cons, k4, l4]⟩
    refine l1.weaken ?_ ?_ (fun b => by simp only [flL_append, flL, List.count_append, List.cons_append]; omega)
    · intro v hv; exact l1.mem v (by simp only [List.cons_append, List.mem_cons, List.mem_append] at hv ⊢; rcases hv with hv | hv | hv | hv <;> simp [hv])
    · intro v hv; exact l1.low v (by simp only [List.cons_append, List.mem_cons, List.mem_append] at hv ⊢; rcases hv with hv | hv | hv | hv <;> simp [hv])

/-- A call. -/
theorem call_sound {fr : Fr} {g : Ghost} {vs : List (V D)} {Hs : List (Ob D)} {w : World} {a : Act} {st : St} (hR : Rel fr g vs Hs w) (hA : At fr E.n g.φ st vs Hs a)
    {o : Oper} {f : Operand} {args : Array Operand} {ts : Array TypeId} (ho : o.op = .call { callee := .value f, args, argTypes := ts }) {K : St → Prop} (h : CallA E o.dst f args.toList st K)
    {next : Act → World → Prop} {Q : Exit → Act → World → Prop} {rd : Option Nat} (hn : ∀ st1 g1 vs1 Hs1 a1 w1, K st1 → Rel fr g1 vs1 Hs1 w1 → At fr E.n g1.φ st1 vs1 Hs1 a1 → next a1 w1) :
    o.wpIn (fen rd) 0 E.P a w next Q := by
  refine wpIn_of (fun c => by rw [ho]; simp) ?_
  unfold CallA at h
  split at h
  · rename_i F first cap hf
    split at h
    · rename_i hfl
      rw [hA.ev_eq] at hf
      obtain ⟨fs, cs, hsf, rfl, rfl⟩ := er_fn hf
      obtain ⟨svs, vs1, k1, k2, k3, k4⟩ := useL_sound hE args.toList [] vs st hR hA
      simp only [List.nil_append] at k1
      have hmf := hA.mem_sev hR f
      rw [hsf] at hmf
      simp only [Mem, MemL_all, V.low, lowL_all, Bool.and_eq_true, List.all_eq_true] at hmf
      simp only [Bool.and_eq_true, List.all_eq_true, List.mem_map, forall_exists_index, and_imp, forall_apply_eq_imp_iff₂, er_flagless] at hfl
      have hz : ∀ l : List (V D), (∀ x ∈ l, x.flagless = true) → flL l = [] := fun l hl => by
        rw [flL_flatMap, List.flatMap_eq_nil_iff]; exact fun x hx => fl_nil (hl x hx)
      have hR2 : Rel fr g ((fs ++ svs ++ cs) ++ vs1) Hs w := by
        refine k1.weaken ?_ ?_ ?_
        · intro v hv
          simp only [List.mem_append] at hv
          rcases hv with ((hv | hv) | hv) | hv
          · exact hmf.1.1 v hv
          · exact k1.mem v (by simp [hv])
          · exact hmf.1.2 v hv
          · exact k1.mem v (by simp [hv])
        · intro v hv
          simp only [List.mem_append] at hv
          rcases hv with ((hv | hv) | hv) | hv
          · exact hmf.2.1 v hv
          · exact k1.low v (by simp [hv])
          · exact hmf.2.2 v hv
          · exact k1.low v (by simp [hv])
        · intro b
          simp only [flL_append, hz fs hfl.1, hz cs hfl.2, List.nil_append, List.append_nil]; exact Nat.le_refl _
      have hcall := h (fr.of g vs1 Hs.length w) g (fs ++ svs ++ cs) Hs w hR2.frame (by simp [k3]) k2.H
      have hexec : (execOp a.eval o).run E.P w = (callFunc F ((fs ++ svs ++ cs).map (V.conc g.φ)).toArray).run E.P w := by
        unfold execOp
        rw [ho]
        simp only [resolve]
        rw [hA.conc_eq f, hsf]
        simp only [V.conc, Deferred.ofValue]
        rw [run_bind (pure_run _ _)]
        simp only [invoke]
        congr 2
        apply Array.ext'
        have := congrArg List.toArray k4
        simp [concL_map, ← k4, Function.comp_def]
      have hpost : ∀ e w', CPost (fr.of g vs1 Hs.length w) (After E o.dst K (useL args.toList st).2.σ) e w' → ∃ v, e = .returned v ∧ next (a.put o.dst v) w' := by
        rintro e w' ⟨g', r, Hs', rfl, hRr, hAf⟩
        have hRu := hR2.unframe hRr
        refine ⟨_, rfl, ?_⟩
        have hA' : At fr E.n g'.φ ⟨(useL args.toList st).2.σ, Hs'.map Ob.er⟩ vs1 Hs' a := by
          have := k2.rephi (N := Hs.length) hRr.frφ.2 (fun v hv => hR2.low v (by simp [hv]))
          exact ⟨this.len, this.tm, this.σ, rfl, this.df⟩
        unfold After at hAf
        split at hAf
        · rename_i st1 hput
          obtain ⟨F', sr', m1, m2, m3⟩ := frz_sound (E := E) hE (dst := o.dst) (by simpa using hRu)
          rw [← m2] at hput
          obtain ⟨vs2, n1, n2⟩ := put_sound hE m1 hA' hput
          rw [m3] at n2
          exact hn st1 _ _ _ _ _ hAf n1 n2
        · exact hAf.elim
      rw [hexec]
      split at hcall
      · rename_i f' cs' w1 hrun
        rw [hrun, Oper.uponIn_enter]
        refine ⟨(fun h => by simp [fen, Fence.wide] at h), callsIn_fen (Calls.mono hcall ?_)⟩
        intro e w' c1
        obtain ⟨v, rfl, hnx⟩ := hpost _ _ c1
        exact hnx
      · rename_i v w1 hrun
        rw [hrun]
        obtain ⟨v', he, hnx⟩ := hpost _ _ hcall
        cases he
        exact hnx
      · exact hcall.elim
    · exact h.elim
  · rename_i l hf
    rw [hA.ev_eq] at hf
    obtain ⟨fs, cs, hsf, hfs, hcs⟩ := er_fn hf
    obtain rfl : fs = [] := by simpa using hfs.symm
    obtain rfl : cs = [] := by simpa using hcs.symm
    obtain ⟨svs, vs1, k1, k2, k3, k4⟩ := useL_sound hE args.toList [] vs st hR hA
    simp only [List.nil_append] at k1
    have hcall := h (fr.of g vs1 Hs.length w) g svs Hs w k1.frame (by simp [k3]) k2.H
    have hexec : (execOp a.eval o).run E.P w = (Go.Instr.yield l (svs.map (V.conc g.φ)).toArray).run E.P w := by
      unfold execOp
      rw [ho]
      simp only [resolve]
      rw [hA.conc_eq f, hsf]
      simp only [V.conc, Deferred.ofValue]
      rw [run_bind (pure_run _ _)]
      simp only [invoke]
      congr 2
      apply Array.ext'
      have := congrArg List.toArray k4
      simp [concL_map, ← k4, Function.comp_def]
    have hpost : ∀ e w', CPost (fr.of g vs1 Hs.length w) (After E o.dst K (useL args.toList st).2.σ) e w' → ∃ v, e = .returned v ∧ next (a.put o.dst v) w' := by
      rintro e w' ⟨g', r, Hs', rfl, hRr, hAf⟩
      have hRu := k1.unframe hRr
      refine ⟨_, rfl, ?_⟩
      have hA' : At fr E.n g'.φ ⟨(useL args.toList st).2.σ, Hs'.map Ob.er⟩ vs1 Hs' a := by
        have := k2.rephi (N := Hs.length) hRr.frφ.2 (fun v hv => k1.low v (by simp [hv]))
        exact ⟨this.len, this.tm, this.σ, rfl, this.df⟩
      unfold After at hAf
      split at hAf
      · rename_i st1 hput
        obtain ⟨F', sr', m1, m2, m3⟩ := frz_sound (E := E) hE (dst := o.dst) (by simpa using hRu)
        rw [← m2] at hput
        obtain ⟨vs2, n1, n2⟩ := put_sound hE m1 hA' hput
        rw [m3] at n2
        exact hn st1 _ _ _ _ _ hAf n1 n2
      · exact hAf.elim
    rw [hexec]
    split at hcall
    · rename_i l' f' tmps assign body w1 hrun
      rw [hrun, Oper.uponIn_round]
      refine ⟨(fun h => by simp [fen, Fence.wide] at h), roundIn_fen (RoundIn.mono hcall ?_)⟩
      intro e w' c1
      obtain ⟨v, rfl, hnx⟩ := hpost _ _ c1
      exact hnx
    · exact hcall.elim
  · exact h.elim

/-- Operations one behind the other. -/
theorem awl_sound {fr : Fr} {ops : Array Oper} {Q : X → St → Prop} : ∀ (l : List Oper) (st : St) (g : Ghost) (vs : List (V D)) (Hs : List (Ob D)) (a : Act) (w : World),
    awl E ops l (Q .normal) st → Rel fr g vs Hs w → At fr E.n g.φ st vs Hs a → wpListIn (fen fr.rd) 0 E.P ops (Snd E fr Q) l a w := by
  intro l
  induction l with
  | nil => intro st g vs Hs a w h hR hA; exact ⟨.normal, st, g, vs, Hs, rfl, hR, hA, h⟩
  | cons o l ih =>
    intro st g vs Hs a w h hR hA
    have hw : ∀ b, wantedA ops o st = some b → Region.wanted o (yielded ops a.tmps) = b := by
      intro b hb
      unfold wantedA at hb
      unfold Region.wanted
      split at hb
      · rename_i hg; simp only [Option.some.injEq] at hb; subst hb; rw [hg]
      · rename_i j want hg
        rw [hg]
        simp only
        split at hb
        · rename_i t ht
          split at hb
          · rename_i c hc
            simp only [Option.some.injEq] at hb; subst hb
            have hy : yielded ops a.tmps j = some c := by
              unfold yielded
              rw [ht]
              rcases hA.tmp_get t with ⟨v, hv, hσ, _⟩ | ⟨hv, hσ, _⟩
              · rw [hc] at hσ
                have := er_bool hσ.symm
                subst this
                simp [hA.tm, hv, V.conc]
              · rw [hc] at hσ; simp at hσ
            rw [hy]
            cases c <;> cases want <;> rfl
          · rename_i hu
            simp only [Option.some.injEq] at hb; subst hb
            have hy : yielded ops a.tmps j = none := by
              unfold yielded
              rw [ht]
              rcases hA.tmp_get t with ⟨v, hv, hσ, _⟩ | ⟨hv, hσ, _⟩
              · rw [hu] at hσ
                have hm : Mem g w v := hR.mem v (List.mem_of_getElem? hv)
                cases v <;> simp [V.er] at hσ
                rename_i d
                simp only [Mem] at hm
                simp only [hA.tm, hv, V.conc, Option.bind_some, List.getElem?_toArray, List.getElem?_map, Option.map_some]
                split
                · rename_i b hb; exact absurd (Option.some.inj hb) (hm b)
                · rfl
              · simp [hA.tm, hv]
            rw [hy]; rfl
          · simp at hb
        · simp at hb
    unfold awl at h
    unfold wpListIn
    split at h
    · rename_i hwant
      rw [if_pos (hw true hwant)]
      split at h
      · rename_i f args ts ho
        exact call_sound hE hR hA ho h (fun st1 g1 vs1 Hs1 a1 w1 hK hR1 hA1 => ih st1 g1 vs1 Hs1 a1 w1 hK hR1 hA1)
      · split at h
        · rename_i st1 hst
          refine wpIn_of (stepA_nodefer hst) ?_
          unfold stepA at hst
          split at hst
          · rename_i r hop
            obtain ⟨g1, sr, vs1, Hs1, w1, k1, k2, k3, k4⟩ := op_sound hE hR hA (r := r.1) (st1 := r.2) hop
            obtain ⟨F, sr', m1, m2, m3⟩ := frz_sound (E := E) hE (dst := o.dst) k1
            rw [← k3, ← m2] at hst
            obtain ⟨vs2, n1, n2⟩ := put_sound hE (g := ⟨g1.φ, F⟩) m1 k2 hst
            rcases k4 with k4 | ⟨k4, k5⟩
            · rw [k4, Oper.uponIn_value]
              rw [m3] at n2
              exact ih st1 _ _ _ _ _ h n1 n2
            · rw [k4, Oper.uponIn_skip]
              rw [m3, k5] at n2
              exact ih st1 _ _ _ _ _ h n1 n2
          · simp at hst
        · exact h.elim
    · rename_i hwant
      rw [if_neg (by rw [hw false hwant]; simp)]
      split at h
      · rename_i st1 hst
        obtain ⟨vs2, n1, n2⟩ := put_sound (sr := ud) hE (hR.cons (by simp [ud, Mem]) rfl rfl) hA hst
        exact ⟨fun _ _ => trivial, ih st1 _ _ _ _ _ h n1 n2⟩
      · exact h.elim
    · exact h.elim

/-! the rules -/
variable {Q : X → St → Prop} {st : St}

omit hE in
theorem Snd.normal {fr : Fr} {Q : X → St → Prop} {st : St} {g : Ghost} {vs : List (V D)} {Hs : List (Ob D)} {a : Act} {w : World} (x : X) (hR : Rel fr g vs Hs w) (hA : At fr E.n g.φ st vs Hs a) (h : Q x st) : Snd E fr Q x.of a w :=
  ⟨x, st, g, vs, Hs, rfl, hR, hA, h⟩

theorem AW.region {id : Nat} {l : List Oper} (h : awl E l.toArray l (Q .normal) st) : AW E (.region id l.toArray false) Q st :=
  fun fr g vs Hs a w _ hR hA => Code.wpIn_mono Snd.snx (wpIn_region_lit (awl_sound hE l st g vs Hs a w h hR hA))

omit hE

theorem AW.mono {c : Code} {Q' : X → St → Prop} (h : AW E c Q st) (hq : ∀ x st, Q x st → Q' x st) : AW E c Q' st :=
  fun fr g vs Hs a w hr hR hA => Code.wpIn_mono (fun e a w ⟨fr', hx, x, st, g, vs, Hs, h1, h2, h3, h4⟩ => ⟨fr', hx, x, st, g, vs, Hs, h1, h2, h3, hq _ _ h4⟩) (h fr g vs Hs a w hr hR hA)

theorem AW.seq {x y : Code} (h : AW E x (thenQ (AW E y Q) Q) st) : AW E (.seq x y) Q st := by
  intro fr g vs Hs a w hr hR hA
  refine wpIn_seq (Code.wpIn_mono ?_ (h fr g vs Hs a w hr hR hA))
  rintro e a' w' ⟨fr', hx, x', st', g', vs', Hs', rfl, h2, h3, h4⟩
  cases x' with
  | normal =>
    have := h4 fr' g' vs' Hs' a' w' (fun h => hx.rd.trans (hr h)) h2 h3
    rw [hx.rd] at this
    exact Code.wpIn_mono (fun e a w ⟨fr2, hx2, hs⟩ => ⟨fr2, hx.trans hx2, hs⟩) this
  | exit id => exact ⟨fr', hx, .exit id, st', g', vs', Hs', rfl, h2, h3, h4⟩
  | goto id => exact ⟨fr', hx, .goto id, st', g', vs', Hs', rfl, h2, h3, h4⟩
  | ret => exact ⟨fr', hx, .ret, st', g', vs', Hs', rfl, h2, h3, h4⟩

theorem AW.cond {c : Operand} {x y : Code} {b : Bool} (hc : ev st c = .bool b) (h : if b = true then AW E x Q st else AW E y Q st) : AW E (.cond c x y) Q st := by
  intro fr g vs Hs a w hr hR hA
  have hb : a.eval c = .bool b := by
    rw [hA.conc_eq]; rw [hA.ev_eq] at hc; rw [er_bool hc]; rfl
  refine wpIn_cond hb ?_
  cases b
  · exact h fr g vs Hs a w hr hR hA
  · exact h fr g vs Hs a w hr hR hA

theorem AW.block {id : Nat} {c : Code} (h : AW E c (blockQ id Q) st) : AW E (.block id c) Q st := by
  intro fr g vs Hs a w hr hR hA
  refine wpIn_block (Code.wpIn_mono ?_ (h fr g vs Hs a w hr hR hA))
  rintro e a' w' ⟨fr', hx, x', st', g', vs', Hs', rfl, h2, h3, h4⟩
  cases x' with
  | normal => exact ⟨fr', hx, .normal, st', g', vs', Hs', rfl, h2, h3, h4⟩
  | exit id' =>
    simp only [blockQ] at h4
    simp only [X.of, Exit.inBlock]
    split
    · rename_i hid; rw [if_pos hid] at h4; exact ⟨fr', hx, .normal, st', g', vs', Hs', rfl, h2, h3, h4⟩
    · rename_i hid; rw [if_neg hid] at h4; exact ⟨fr', hx, .exit id', st', g', vs', Hs', rfl, h2, h3, h4⟩
  | goto id => exact ⟨fr', hx, .goto id, st', g', vs', Hs', rfl, h2, h3, h4⟩
  | ret => exact ⟨fr', hx, .ret, st', g', vs', Hs', rfl, h2, h3, h4⟩

theorem AW.skip (h : Q .normal st) : AW E .skip Q st := fun fr g vs Hs a w _ hR hA => wpIn_skip ⟨fr, .refl, .normal, st, g, vs, Hs, rfl, hR, hA, h⟩
theorem AW.label {l : Nat} (h : Q .normal st) : AW E (.label l) Q st := fun fr g vs Hs a w _ hR hA => wpIn_label ⟨fr, .refl, .normal, st, g, vs, Hs, rfl, hR, hA, h⟩
theorem AW.exit {id : Nat} (h : Q (.exit id) st) : AW E (.exit id) Q st := fun fr g vs Hs a w _ hR hA => wpIn_exit ⟨fr, .refl, .exit id, st, g, vs, Hs, rfl, hR, hA, h⟩
theorem AW.goto {l : Nat} (h : Q (.goto l) st) : AW E (.goto l) Q st := fun fr g vs Hs a w _ hR hA => wpIn_goto ⟨fr, .refl, .goto l, st, g, vs, Hs, rfl, hR, hA, h⟩
theorem AW.ret (h : Q .ret st) : AW E .ret Q st := fun fr g vs Hs a w _ hR hA => wpIn_ret ⟨fr, .refl, .ret, st, g, vs, Hs, rfl, hR, hA, h⟩

/-- A loop: what holds at each head, and what goes down. -/
theorem AW.loop {c : Code} (I : St → Prop) (μ : St → Nat) (h0 : I st) (hr : ∀ st, I st → AW E c (thenQ (fun st' => I st' ∧ μ st' < μ st) Q) st) : AW E (.loop c) Q st := by
  intro fr g vs Hs a w hrd hR hA b k cs hro hb hroom
  have key : ∀ n, ∀ st, I st → μ st = n → ∀ fr1 g vs Hs a w, FrX fr fr1 → Rel fr1 g vs Hs w → At fr1 E.n g.φ st vs Hs a →
      ∃ e a' w', Snx E fr Q e a' w' ∧ ArrivesIn (Machine.fenced E.P (fen fr.rd)) E.P (lone (b.atR a (.code c :: .inLoop c :: k)) cs w) b k cs e a' w' := by
    intro n
    induction n using Nat.strongRecOn with
    | _ n ih =>
      intro st hI hn fr1 g vs Hs a w hx1 hR hA
      have h1 := hr st hI fr1 g vs Hs a w (fun h => hx1.rd.trans (hrd h)) hR hA
      rw [hx1.rd] at h1
      obtain ⟨e, a₁, w₁, ⟨fr2, hx2, x, st1, g1, vs1, Hs1, rfl, k1, k2, k3⟩, harr⟩ := h1 b (.inLoop c :: k) cs hro hb hroom
      have hx12 := hx1.trans hx2
      cases x with
      | normal =>
        obtain ⟨hI1, hlt⟩ := k3
        obtain ⟨e2, a2, w2, hq2, harr2⟩ := ih (μ st1) (hn ▸ hlt) st1 hI1 rfl fr2 g1 vs1 Hs1 a₁ w₁ hx12 k1 k2
        exact ⟨e2, a2, w2, hq2, .of_steps (StepsIn.trans harr (.one (fenced_calm hb hroom rfl) stepR_inLoop)) harr2⟩
      | exit id => exact ⟨_, a₁, w₁, ⟨fr2, hx12, .exit id, st1, g1, vs1, Hs1, rfl, k1, k2, k3⟩, .pass (x := .inLoop c) rfl (fun _ _ => .inl (by simp [X.of])) harr⟩
      | goto l => exact ⟨_, a₁, w₁, ⟨fr2, hx12, .goto l, st1, g1, vs1, Hs1, rfl, k1, k2, k3⟩, .pass (x := .inLoop c) rfl (fun _ _ => .inl (by simp [X.of])) harr⟩
      | ret => exact ⟨_, a₁, w₁, ⟨fr2, hx12, .ret, st1, g1, vs1, Hs1, rfl, k1, k2, k3⟩, .pass (x := .inLoop c) rfl (fun _ _ => .inl (by simp [X.of])) harr⟩
  obtain ⟨e, a', w', hq, harr⟩ := key _ st h0 rfl fr g vs Hs a w .refl hR hA
  exact ⟨e, a', w', hq, .of_steps (.one (fenced_calm hb hroom rfl) stepR_loop) harr⟩
end
end Go.Ab
end
