/- Abstract values and rules for them, proved sound over the model. -/
import Derived.Test.YtbdhocfaebchfaaOpLAbFun
set_option linter.all false
set_option linter.unusedSimpArgs false
set_option linter.unusedVariables false
set_option linter.unnecessarySimpa false
section
/- The table of types, out of the program itself. -/
namespace Go.Ab
open V
variable [Glob]

def plainB (P : Program) (t : TypeId) (d : TypeDesc) : Bool :=
  !P.eqGuardType P.depth t && !P.stoodInHeld t && (match d with | .struct fs => fs.all fun f => f.name != "_" | _ => true)

def tyFrom (P : Program) (t : TypeId) : Option Ty :=
  match P.info? t with
  | none => none
  | some i =>
    match i.zero.bind ofConst, P.underlying t with
    | some z, some d => if (tyOf (some d)).agg || i.size == 1 then some { d := tyOf (some d), size := i.size, bytes := i.bytes, zero := z, plain := plainB P t d } else none
    | _, _ => none

theorem tyFrom_ok {P : Program} {n : Nat} {mode : Tmp → Mode} {frz : Tmp → Bool} : Env.Ok { P := P, T := tyFrom P, mode := mode, frz := frz, n := n } := by
  intro t y h
  simp only [tyFrom] at h
  split at h
  · simp at h
  · rename_i i hi
    split at h
    · rename_i z d hz hd
      split at h
      · rename_i hc
        simp only [Option.some.injEq] at h
        subst h
        refine ⟨⟨i, hi, rfl, rfl, hz⟩, by rw [hd], by simp [hd], ?_, ?_⟩
        · intro ha
          simp only at ha
          rw [ha] at hc
          simpa using hc
        · intro hp
          simp only [plainB, Bool.and_eq_true, Bool.not_eq_true'] at hp
          refine ⟨hp.1.1, hp.1.2, ?_⟩
          intro fs hfs f hf
          rw [hd] at hfs
          simp only [Option.some.injEq] at hfs
          subst hfs
          have := hp.2
          simp only [Array.all_eq_true_iff_forall_mem] at this
          simpa using this f hf
      · simp at h
    · simp at h

/-- The surroundings of a function's code. -/
def env (P : Program) (n : Nat) (mode : Tmp → Mode) (frz : Tmp → Bool) : Env := { P := P, T := tyFrom P, mode := mode, frz := frz, n := n }
theorem env_ok {P : Program} {n : Nat} {mode : Tmp → Mode} {frz : Tmp → Bool} : (env P n mode frz).Ok := tyFrom_ok
end Go.Ab
end
