/- Abstract values and rules for them, proved sound over the model. -/
import Derived.Test.YtbdhocfaebchfaaOpLAbOb
set_option linter.all false
set_option linter.unusedSimpArgs false
set_option linter.unusedVariables false
set_option linter.unnecessarySimpa false
section
/- A slice is compared with nil: of an empty one either answer is thought of. -/
namespace Go.Ab
open V
variable [Glob]
set_option linter.unusedSimpArgs false
set_option linter.unusedVariables false
set_option linter.unusedSectionVars false

section
variable {E : Env} {Q : X → St → Prop} {st st1 : St}

theorem nil_run {P : Program} {T : TypeId} {d : TypeDesc} (hd : P.underlying T = some d) {e : TypeId} (he : d = .slice e) {a : Option Addr} {n c : Nat} (w : World) :
    (Go.Op.equal T (.slice a n c) (.slice none 0 0)).run P w = .ok a.isNone w := by
  subst he
  unfold Go.Op.equal Go.Op.maxDepth Go.Op.equalIn
  rw [run_bind (run_underlying hd w)]
  cases a <;> rfl

/-- A copied slice is compared with nil. -/
theorem AW.isNil (hE : E.Ok) {id : Nat} {o1 : Oper} {t t4 : Tmp} {T T' : TypeId} {ps : String} {af : _} {ty' : TypeId} {e : TypeId} {xs : List A} {own : Option Nat}
    (hg : o1.guard = none) (hc : ∀ c, o1.op ≠ .call c) (h1 : stepA E o1 st = some st1) (hT : dOf E.T T = .sl e) (hx : st1.σ t = .sl xs own ()) (ht : t4 < E.n)
    (h : ∀ b : Bool, (b = true → xs = []) → Q .normal ⟨upd st1.σ t4 (.bool b), st1.H⟩) :
    AW E (.region id #[o1, { dst := some t4, op := .binOp .eql T (.tmp t) (.const (.slice none 0 0)) T', type := ty', pos := ps, after := af, guard := none }] false) Q st := by
  intro fr g vs Hs a w _ hR hA
  refine Code.wpIn_mono Snd.snx (wpIn_region_lit (l := [o1, _]) ?_)
  unfold wpListIn
  rw [if_pos (by simp [Region.wanted, hg])]
  refine wpIn_of (stepA_nodefer h1) ?_
  unfold stepA at h1
  split at h1
  · rename_i r hop
    obtain ⟨g1, sr, vs1, Hs1, w1, k1, k2, k3, k4⟩ := op_sound hE hR hA (r := r.1) (st1 := r.2) hop
    obtain ⟨F, sr', m1, m2, m3⟩ := frz_sound (E := E) hE (dst := o1.dst) k1
    rw [← k3, ← m2] at h1
    obtain ⟨vs2, n1, n2⟩ := put_sound hE (g := ⟨g1.φ, F⟩) m1 k2 h1
    have key : ∀ a' w', Rel fr ⟨g1.φ, F⟩ vs2 Hs1 w' → At fr E.n g1.φ st1 vs2 Hs1 a' → wpListIn (fen fr.rd) 0 E.P
        [o1, { dst := some t4, op := .binOp .eql T (.tmp t) (.const (.slice none 0 0)) T', type := ty', pos := ps, after := af, guard := none }].toArray (Snd E fr Q)
        [{ dst := some t4, op := .binOp .eql T (.tmp t) (.const (.slice none 0 0)) T', type := ty', pos := ps, after := af, guard := none }] a' w' := by
      intro a' w' hR' hA'
      unfold wpListIn
      rw [if_pos (by simp [Region.wanted])]
      refine wpIn_of (fun c => by simp) ?_
      have hv : ∃ ys d, sev vs2 a' (.tmp t) = .sl ys own d ∧ xs = ys.map V.er := by
        have := hA'.ev_eq (.tmp t)
        simp only [ev, hx] at this
        obtain ⟨ys, d, h1, h2⟩ := er_sl this.symm
        exact ⟨ys, d, h1, h2.symm⟩
      obtain ⟨ys, d, hv1, hv2⟩ := hv
      have hev : a'.eval (.tmp t) = .slice (slA d) ys.length d.cap := by
        have h5 := hA'.conc_eq (g := ⟨g1.φ, F⟩) (.tmp t); rw [hv1] at h5; exact h5
      have hm := (At.mem_sev (g := ⟨g1.φ, F⟩) hA' hR' (.tmp t)).1
      rw [hv1] at hm
      simp only [Mem] at hm
      have hnil : (slA d).isNone = true → xs = [] := by
        intro hn
        obtain ⟨_, _, _, _, hs⟩ := hm
        cases hda : d.a with
        | none => rw [hda] at hs; simp only at hs; rw [hv2, hs.1]; rfl
        | some p => simp only [slA, hda] at hn; simp at hn
      have hrun : (execOp a'.eval { dst := some t4, op := .binOp .eql T (.tmp t) (.const (.slice none 0 0)) T', type := ty', pos := ps, after := af, guard := none }).run E.P w' = .ok (.value (.bool (slA d).isNone)) w' := by
        show (do pure (Next.value (← (do eqGuard .eql T (.tmp t) (.const (.slice none 0 0)) (a'.eval (.tmp t)) (.slice none 0 0); Go.binOp .eql T (a'.eval (.tmp t)) (.slice none 0 0) : Sem Value))) : Sem Next).run E.P w' = _
        refine value_run ?_
        rw [hev, run_bind (eqGuard_none (by simp) (by simp))]
        show (do pure (Value.bool (← Go.Op.equal T _ _)) : Sem Value).run E.P w' = _
        rw [run_bind (nil_run (und_sl hE hT) rfl w')]
        rfl
      rw [hrun, Oper.uponIn_value]
      have hput : put E (some t4) (V.bool (slA d).isNone : V D).er st1 = some ⟨upd st1.σ t4 (.bool (slA d).isNone), st1.H⟩ := by
        simp [put, ht, V.er]
      obtain ⟨vs3, p1, p2⟩ := put_sound (sr := (V.bool (slA d).isNone : V D)) hE (hR'.cons (by simp [Mem]) rfl rfl) hA' hput
      exact ⟨.normal, _, _, vs3, Hs1, rfl, p1, p2, h _ hnil⟩
    rcases k4 with k4 | ⟨k4, k5⟩
    · rw [k4, Oper.uponIn_value]
      rw [m3] at n2
      exact key _ _ n1 n2
    · rw [k4, Oper.uponIn_skip]
      rw [m3, k5] at n2
      exact key _ _ n1 n2
  · simp at h1

def nilK (v : A) (K : Bool → Prop) : Prop := match v with | .sl xs _ _ => ∀ b : Bool, (b = true → xs = []) → K b | _ => False
theorem AW.nil (hE : E.Ok) {id : Nat} {o1 : Oper} {t t4 : Tmp} {T T' : TypeId} {ps : String} {af : _} {ty' : TypeId} {e : TypeId}
    (hg : o1.guard = none) (hc : ∀ c, o1.op ≠ .call c) (hT : dOf E.T T = .sl e) (ht : t4 < E.n)
    (h : optK (stepA E o1 st) (HoldF (fun st1 => nilK (st1.σ t) (fun b => Q .normal ⟨upd st1.σ t4 (.bool b), st1.H⟩)))) :
    AW E (.region id #[o1, { dst := some t4, op := .binOp .eql T (.tmp t) (.const (.slice none 0 0)) T', type := ty', pos := ps, after := af, guard := none }] false) Q st := by
  cases h1 : stepA E o1 st with
  | none => rw [h1] at h; exact h.elim
  | some s1 =>
    rw [h1] at h
    have h : nilK (s1.σ t) (fun b => Q .normal ⟨upd s1.σ t4 (.bool b), s1.H⟩) := h
    unfold nilK at h
    split at h
    · rename_i xs own _ hx; exact AW.isNil hE hg hc h1 hT hx ht h
    · exact h.elim
end
end Go.Ab
end
