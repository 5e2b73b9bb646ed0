/- Abstract values and rules for them, proved sound over the model. -/
import Derived.Test.YtbdhocfaebchfaaOpLAbLoop3
set_option linter.all false
set_option linter.unusedSimpArgs false
set_option linter.unusedVariables false
set_option linter.unnecessarySimpa false
section
/- A whole piece of code, stepped through by one set of words. -/
namespace Go.Ab
open V
variable [Glob]
set_option linter.unusedVariables false

section
variable {P : Program} {b : Frame} {a : Act} {k : List Item} {cs : List Frame} {w : World} {R : Exit → Act → World → Prop} {F : Fence} {n : Nat}
omit [Glob]
theorem stepR_scope {c : Code} : step P (lone (b.atR a (.code (.scope c) :: k)) cs w) = .next (lone (b.atR a (.code c :: .inScope c :: k)) cs w) :=
  step_lone_go (by simp [stepG, stepG.exec, Frame.atR])
theorem stepR_inScope {c : Code} : step P (lone (b.atR a (.inScope c :: k)) cs w) = .next (lone (b.atR a k) cs w) :=
  step_lone_go (by simp [stepG, stepG.exec, Frame.atR])
def noGoto (Q : Exit → Act → World → Prop) : Exit → Act → World → Prop
  | .goto _, _, _ => False
  | e, a, w => Q e a w
theorem wpIn_scope {c : Code} (h : c.wpIn F n P (noGoto R) a w) : (Code.scope c).wpIn F n P R a w := by
  intro b k cs hro hb hr
  have h0 : (lone (b.atR a (.code (.scope c) :: k)) cs w).fenced P F := fenced_calm hb hr rfl
  obtain ⟨e, a₁, w₁, hq, harr⟩ := h b (.inScope c :: k) cs hro hb hr
  cases e with
  | normal => exact ⟨.normal, a₁, w₁, hq, .head h0 stepR_scope (StepsIn.trans harr (.one (fenced_calm hb hr rfl) stepR_inScope))⟩
  | exit id' =>
    have hx : exitTo id' (.inScope c :: k) = exitTo id' k := by simp [exitTo]
    exact ⟨.exit id', a₁, w₁, hq, fun k' hk => .head h0 stepR_scope (harr.1 k' (by rw [hx]; exact hk)),
      fun hr' hk => let ⟨k₁, h1, h2⟩ := harr.2 hr' (by rw [hx]; exact hk); ⟨k₁, h1, .head h0 stepR_scope h2⟩⟩
  | goto l => exact hq.elim
  | ret => exact ⟨_, a₁, w₁, hq, .of_steps (.one h0 stepR_scope) harr⟩
  | panic ch => exact ⟨_, a₁, w₁, hq, .of_steps (.one h0 stepR_scope) harr⟩
  | outgrown => exact ⟨_, a₁, w₁, hq, .of_steps (.one h0 stepR_scope) harr⟩
end
/-- No jumps to labels. -/
def scopeQ (Q : X → St → Prop) : X → St → Prop
  | .goto _, _ => False
  | x, st => Q x st
theorem AW.scope {E : Env} {c : Code} {Q : X → St → Prop} {st : St} (h : AW E c (scopeQ Q) st) : AW E (.scope c) Q st := by
  intro fr g vs Hs a w hr hR hA
  refine wpIn_scope (Code.wpIn_mono ?_ (h fr g vs Hs a w hr hR hA))
  rintro e a' w' ⟨fr', hx, x', st', g', vs', Hs', rfl, h2, h3, h4⟩
  cases x' with
  | normal => exact ⟨fr', hx, .normal, st', g', vs', Hs', rfl, h2, h3, h4⟩
  | exit id' => exact ⟨fr', hx, .exit id', st', g', vs', Hs', rfl, h2, h3, h4⟩
  | goto id => exact h4.elim
  | ret => exact ⟨fr', hx, .ret, st', g', vs', Hs', rfl, h2, h3, h4⟩
section
omit [Glob]
@[congr] theorem scopeQ_cg {Q : X → St → Prop} {x : X} {s t : St} {dm : Prop} (dd : Dum = dm) (h : Idw s = t) : scopeQ Q x s = scopeQ Q x t := by rw [Idw_eq] at h; rw [h]
end

/-- A branch. -/
def condW (v : A) (p q : Prop) : Prop := match v with | .bool true => p | .bool false => q | _ => False
omit [Glob] in
theorem condW_t {p q : Prop} : condW (.bool true) (Hold p) q = p := rfl
omit [Glob] in
theorem condW_f {p q : Prop} : condW (.bool false) p (Hold q) = q := rfl
omit [Glob] in
theorem condW.br {b : Bool} {p q : Prop} (h1 : b = true → p) (h2 : b = false → q) : condW (.bool b) (Hold p) (Hold q) := by
  cases b with
  | true => exact h1 rfl
  | false => exact h2 rfl

/-- The code c from the state st on; m: the slots that bear a copy of a slice's head or the address of an element, if any. -/
def walk (E : Env) (m : Option (Tmp → Bool)) : Code → (X → St → Prop) → St → Prop
  | .seq x y, Q, st => walk E m x (thenQ (walk E m y Q) Q) st
  | .block id c, Q, st => walk E m c (blockQ id Q) st
  | .cond c x y, Q, st => condW (ev st c) (walk E m x Q st) (walk E m y Q st)
  | .region id ops false, Q, st => (match m with | none => awl E ops ops.toList (Q .normal) st | some p => awx E p ops ops.toList [] (Q .normal) st)
  | .region id ops true, Q, st => AW E (.region id ops true) Q st
  | .skip, Q, st => Q .normal st
  | .label _, Q, st => Q .normal st
  | .exit id, Q, st => Q (.exit id) st
  | .goto l, Q, st => Q (.goto l) st
  | .ret, Q, st => Q .ret st
  | .loop c, Q, st => AW E (.loop c) Q st
  | .rangeFunc f p a b, Q, st => AW E (.rangeFunc f p a b) Q st
  | .scope c, Q, st => walk E m c (scopeQ Q) st
  | .refuse w, Q, st => AW E (.refuse w) Q st

theorem walk_aw {E : Env} (hE : E.Ok) (m : Option (Tmp → Bool)) : ∀ {c : Code} {Q : X → St → Prop} {st : St}, walk E m c Q st → AW E c Q st := by
  intro c
  induction c with
  | skip => intro Q st h; exact AW.skip h
  | region id ops draw =>
    intro Q st h
    cases draw with
    | true => exact h
    | false =>
      obtain ⟨l⟩ := ops
      cases m with
      | none => exact AW.region hE h
      | some p => exact AW.regionX hE p h
  | seq x y hx hy =>
    intro Q st h
    refine AW.seq ((hx h).mono ?_)
    intro x st h
    cases x with
    | normal => exact hy h
    | exit id => exact h
    | goto l => exact h
    | ret => exact h
  | cond c x y hx hy =>
    intro Q st h
    simp only [walk, condW] at h
    split at h
    · rename_i hc; exact AW.cond hc (by rw [if_pos rfl]; exact hx h)
    · rename_i hc; exact AW.cond hc (by rw [if_neg (by simp)]; exact hy h)
    · exact h.elim
  | block id c hc => intro Q st h; exact AW.block (hc h)
  | loop c => intro Q st h; exact h
  | rangeFunc f p a b => intro Q st h; exact h
  | exit id => intro Q st h; exact AW.exit h
  | scope c hc => intro Q st h; exact AW.scope (hc h)
  | label l => intro Q st h; exact AW.label h
  | goto l => intro Q st h; exact AW.goto h
  | ret => intro Q st h; exact AW.ret h
  | refuse w => intro Q st h; exact h

section
variable {E : Env} {m : Option (Tmp → Bool)} {Q : X → St → Prop} {st : St}
theorem walk_seq {x y : Code} : walk E m (.seq x y) Q st = walk E m x (thenQ (walk E m y Q) Q) st := rfl
theorem walk_block {id : Nat} {c : Code} : walk E m (.block id c) Q st = walk E m c (blockQ id Q) st := rfl
theorem walk_cond {c : Operand} {x y : Code} : walk E m (.cond c x y) Q st = condW (ev st c) (Hold (walk E m x Q st)) (Hold (walk E m y Q st)) := rfl
theorem walk_region {id : Nat} {l : List Oper} : walk E none (.region id l.toArray false) Q st = awl E l.toArray l (Q .normal) st := rfl
theorem walk_regionX {id : Nat} {l : List Oper} {p : Tmp → Bool} : walk E (some p) (.region id l.toArray false) Q st = awx E p l.toArray l [] (Q .normal) st := rfl
theorem walk_draw {id : Nat} {ops : Array Oper} : walk E m (.region id ops true) Q st = AW E (.region id ops true) Q st := rfl
theorem walk_skip : walk E m .skip Q st = Q .normal st := rfl
theorem walk_label {l : Nat} : walk E m (.label l) Q st = Q .normal st := rfl
theorem walk_exit {l : Nat} : walk E m (.exit l) Q st = Q (.exit l) st := rfl
theorem walk_goto {l : Nat} : walk E m (.goto l) Q st = Q (.goto l) st := rfl
theorem walk_ret : walk E m .ret Q st = Q .ret st := rfl
theorem walk_loop {c : Code} : walk E m (.loop c) Q st = AW E (.loop c) Q st := rfl
theorem walk_scope {c : Code} : walk E m (.scope c) Q st = walk E m c (scopeQ Q) st := rfl
theorem walk_range {f : Operand} {p : Array Nat} {a b : Code} : walk E m (.rangeFunc f p a b) Q st = AW E (.rangeFunc f p a b) Q st := rfl
end
@[congr] theorem walk_cg {E : Env} {m : Option (Tmp → Bool)} {c : Code} {Q : X → St → Prop} {s t : St} {dm : Prop} (dd : Dum = dm) (h : Idw s = t) : walk E m c Q s = walk E m c Q t := by rw [Idw_eq] at h; rw [h]
@[congr] theorem endQ_cg {i l : Nat} {r : Loop} {cs : List A} {Q : A → Heap → Prop} {x : X} {s t : St} {dm : Prop} (dd : Dum = dm) (h : Idw s = t) : endQ i l r cs Q x s = endQ i l r cs Q x t := by rw [Idw_eq] at h; rw [h]
attribute [go_sem] walk_seq walk_block walk_cond walk_region walk_regionX walk_draw walk_skip walk_label walk_exit walk_goto walk_ret walk_loop walk_range walk_scope scopeQ condW_t condW_f List.toList_toArray V.one false_or or_false true_or or_true
end Go.Ab
end
