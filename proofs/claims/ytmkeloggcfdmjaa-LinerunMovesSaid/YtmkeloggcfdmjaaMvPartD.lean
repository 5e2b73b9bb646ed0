/- Contracts of the functions that the law reaches. -/
import Derived.Test.YtmkeloggcfdmjaaMvPartC
import Derived.Test.YtmkeloggcfdmjaaMvLAbLoop3
import Derived.Test.YtmkeloggcfdmjaaMvLAbAl4
set_option linter.all false
set_option linter.unusedSimpArgs false
set_option linter.unusedVariables false
set_option linter.unnecessarySimpa false
section
/- Line programs one behind the other, in plain Lean. -/
namespace Go.Ab
open V Go.Proofs
set_option maxHeartbeats 4000000
set_option linter.unusedSimpArgs false
set_option linter.unusedVariables false

/-- The cursor t stands in more bytes, where s stands in its own. -/
structure Sh (pre post : List UInt8) (s t : CS) : Prop where
  b : t.b = pre ++ s.b ++ post
  pos : t.pos = pre.length + s.pos
  err : t.err = s.err

section
variable {pre post : List UInt8} {s t : CS}

/-- An error stays. -/
theorem take_err {s : CS} {n : Nat} (h : (s.take n).2.err = 0) : s.err = 0 := by
  by_cases e : s.err = 0
  · exact e
  · unfold CS.take at h; rw [if_neg e] at h; exact h
theorem fail_err {s : CS} {e : Int} (he : e ≠ 0) : (s.fail e).err ≠ 0 := by
  unfold CS.fail
  split
  · exact he
  · assumption
theorem Sh.fail (h : Sh pre post s t) (e : Int) : Sh pre post (s.fail e) (t.fail e) := by
  unfold CS.fail
  rw [h.err]
  split
  · exact ⟨h.b, h.pos, rfl⟩
  · exact h
theorem Sh.take (h : Sh pre post s t) (hs : s.Ok) {n : Nat} (hc : post = [] ∨ (s.take n).2.err = 0) : (t.take n).1 = (s.take n).1 ∧ Sh pre post (s.take n).2 (t.take n).2 := by
  have hp := hs.1
  have hlen : t.b.length - t.pos = s.b.length - s.pos + post.length := by rw [h.b, h.pos]; simp; omega
  by_cases e : s.err = 0
  · have e' : t.err = 0 := by rw [h.err]; exact e
    unfold CS.take at hc ⊢
    rw [if_pos e] at hc ⊢
    rw [if_pos e']
    by_cases c : n ≤ s.b.length - s.pos
    · have c' : n ≤ t.b.length - t.pos := by omega
      rw [if_pos c, if_pos c']
      refine ⟨?_, ⟨h.b, by simp only; rw [h.pos]; omega, h.err⟩⟩
      simp only
      rw [h.b, h.pos, List.append_assoc, List.take_append, List.drop_append]
      rw [List.drop_of_length_le (by simp; omega), List.nil_append]
      rw [List.take_append_of_le_length (by omega)]
      congr 1
      · simp; omega
      · congr 1; omega
    · rw [if_neg c] at hc ⊢
      rcases hc with hc | hc
      · have c' : ¬ n ≤ t.b.length - t.pos := by rw [hlen, hc]; simpa using c
        rw [if_neg c']
        exact ⟨rfl, h.b, h.pos, rfl⟩
      · cases hc
  · have e' : ¬ t.err = 0 := by rw [h.err]; exact e
    unfold CS.take
    rw [if_neg e, if_neg e']
    exact ⟨rfl, h⟩
theorem seven_err : ∀ (k : Nat) {s : CS}, (seven k s).2.err = 0 → s.err = 0 := by
  intro k
  induction k with
  | zero => intro s h; exact absurd h (fail_err (by omega))
  | succ k ih =>
    intro s h
    unfold seven at h
    simp only at h
    split at h
    · rename_i e; exact take_err e
    · exact take_err h
theorem Sh.seven : ∀ (k : Nat) {s t : CS}, Sh pre post s t → s.Ok → (post = [] ∨ (seven k s).2.err = 0) → (seven k t).1 = (seven k s).1 ∧ Sh pre post (seven k s).2 (seven k t).2 := by
  intro k
  induction k with
  | zero => intro s t h hs _; exact ⟨rfl, h.fail 11⟩
  | succ k ih =>
    intro s t h hs hc
    have hc1 : post = [] ∨ (s.take 1).2.err = 0 := by
      rcases hc with hc | hc
      · exact .inl hc
      · right
        unfold Go.Ab.seven at hc
        simp only at hc
        split at hc
        · assumption
        · exact hc
    obtain ⟨h1, h2⟩ := h.take hs hc1
    unfold Go.Ab.seven at hc ⊢
    simp only at hc ⊢
    rw [h1, h2.err]
    split
    · rename_i e
      rw [if_pos e] at hc
      split
      · exact ⟨rfl, h2⟩
      · rename_i e2
        rw [if_neg e2] at hc
        have := ih h2 (hs.take 1) (by
          rcases hc with hc | hc
          · exact .inl hc
          · right
            split at hc
            · rename_i q; rw [q]; exact hc
            · rename_i q; rw [q]; exact hc)
        obtain ⟨k1, k2⟩ := this
        cases hq : Go.Ab.seven k (s.take 1).2 with
        | mk a s2 =>
          cases hq' : Go.Ab.seven k (t.take 1).2 with
          | mk a' t2 =>
            rw [hq, hq'] at k1 k2
            simp only at k1 k2
            subst k1
            cases a' with
            | none => exact ⟨rfl, k2⟩
            | some l => exact ⟨rfl, k2⟩
    · rename_i e; exact ⟨rfl, h2⟩
theorem uleb_err {s : CS} (h : s.uleb.2.err = 0) : (seven 10 s).2.err = 0 := by
  unfold CS.uleb at h
  split at h
  · rename_i l s2 e
    split at h
    · exact absurd h (fail_err (by omega))
    · rw [e]; exact h
  · rename_i s2 e; rw [e]; exact h
theorem sleb_err {s : CS} (h : s.sleb.2.err = 0) : (seven 10 s).2.err = 0 := by
  unfold CS.sleb at h
  split at h
  · rename_i l s2 e
    split at h
    · exact absurd h (fail_err (by omega))
    · rw [e]; exact h
  · rename_i s2 e; rw [e]; exact h
theorem Sh.uleb (h : Sh pre post s t) (hs : s.Ok) (hc : post = [] ∨ s.uleb.2.err = 0) : t.uleb.1 = s.uleb.1 ∧ Sh pre post s.uleb.2 t.uleb.2 := by
  obtain ⟨k1, k2⟩ := Sh.seven 10 h hs (hc.imp id uleb_err)
  unfold CS.uleb
  cases hq : Go.Ab.seven 10 s with
  | mk a s2 =>
    cases hq' : Go.Ab.seven 10 t with
    | mk a' t2 =>
      rw [hq, hq'] at k1 k2
      simp only at k1 k2
      subst k1
      cases a' with
      | none => exact ⟨rfl, k2⟩
      | some l =>
        simp only
        split
        · exact ⟨rfl, k2.fail 11⟩
        · exact ⟨rfl, k2⟩
theorem Sh.sleb (h : Sh pre post s t) (hs : s.Ok) (hc : post = [] ∨ s.sleb.2.err = 0) : t.sleb.1 = s.sleb.1 ∧ Sh pre post s.sleb.2 t.sleb.2 := by
  obtain ⟨k1, k2⟩ := Sh.seven 10 h hs (hc.imp id sleb_err)
  unfold CS.sleb
  cases hq : Go.Ab.seven 10 s with
  | mk a s2 =>
    cases hq' : Go.Ab.seven 10 t with
    | mk a' t2 =>
      rw [hq, hq'] at k1 k2
      simp only at k1 k2
      subst k1
      cases a' with
      | none => exact ⟨rfl, k2⟩
      | some l =>
        simp only
        split
        · exact ⟨rfl, k2.fail 11⟩
        · exact ⟨rfl, k2⟩
theorem small_err {s : CS} (h : s.small.2.err = 0) : s.uleb.2.err = 0 := by
  unfold CS.small at h
  split at h
  · exact absurd h (fail_err (by omega))
  · exact h
theorem Sh.small (h : Sh pre post s t) (hs : s.Ok) (hc : post = [] ∨ s.small.2.err = 0) : t.small.1 = s.small.1 ∧ Sh pre post s.small.2 t.small.2 := by
  obtain ⟨k1, k2⟩ := h.uleb hs (hc.imp id small_err)
  unfold CS.small
  rw [k1]
  split
  · exact ⟨rfl, k2.fail 48⟩
  · exact ⟨rfl, k2⟩
theorem ulebs_err : ∀ (k : Nat) {s : CS}, (ulebs k s).err = 0 → s.err = 0 := by
  intro k
  induction k with
  | zero => intro s h; exact h
  | succ k ih => intro s h; exact seven_err 10 (uleb_err (ih h))
theorem Sh.ulebs : ∀ (k : Nat) {s t : CS}, Sh pre post s t → s.Ok → (post = [] ∨ (ulebs k s).err = 0) → Sh pre post (ulebs k s) (ulebs k t) := by
  intro k
  induction k with
  | zero => intro s t h _ _; exact h
  | succ k ih =>
    intro s t h hs hc
    exact ih (h.uleb hs (hc.imp id fun q => ulebs_err k q)).2 hs.uleb hc
end

/-- The registers t are the registers m, in more bytes, behind more rows. -/
structure Sm (pre post : List UInt8) (O : List RW) (m t : MS) : Prop where
  s : Sh pre post m.s t.s
  row : t.row = m.row
  out : t.out = O ++ m.out

/-- What comes of a step: the same; or too many rows. -/
def Res (pre post : List UInt8) (O : List RW) (m t : MS) : Prop := (Sm pre post O m t ∧ t.out.length ≤ 2000) ∨ (t.s.err = 3 ∧ (m.s.err ≠ 0 ∨ 2000 < O.length + m.out.length))

section
variable {pre post : List UInt8} {O : List RW} {hd : HD} {m t : MS}

theorem Sm.tell (h : Sm pre post O m t) (h0 : m.s.err = 0) (ht : t.out.length ≤ 2000) : Res pre post O m.tell t.tell := by
  have h0' : t.s.err = 0 := by rw [h.s.err]; exact h0
  have hl : t.out.length = O.length + m.out.length := by rw [h.out]; simp
  unfold MS.tell
  rw [if_pos h0, if_pos h0']
  by_cases c' : t.out.length = 2000
  · rw [if_pos c']
    right
    refine ⟨by show (t.s.fail 3).err = 3; unfold CS.fail; rw [if_pos h0'], ?_⟩
    by_cases c : m.out.length = 2000
    · rw [if_pos c]; left; exact fail_err (by omega)
    · rw [if_neg c]; right; simp; omega
  · rw [if_neg c', if_neg (by omega)]
    left
    refine ⟨⟨h.s, ?_, ?_⟩, ?_⟩
    · simp only [h.row]
    · simp only [h.out, h.row, List.append_assoc]
    · simp only [List.length_append, List.length_cons, List.length_nil]; omega

theorem Res.of (h : Sm pre post O m t) (ht : t.out.length ≤ 2000) : Res pre post O m t := .inl ⟨h, ht⟩

theorem Sm.by (h : Sm pre post O m t) (n : Int) : Sm pre post O (m.by hd n) (t.by hd n) := ⟨h.s, by unfold MS.by; simp only [h.row], h.out⟩
theorem Sm.line (h : Sm pre post O m t) (n : Int) : Sm pre post O (m.line n) (t.line n) := by
  unfold MS.line
  rw [h.row]
  split
  · exact ⟨h.s.fail 48, h.row, h.out⟩
  · exact ⟨h.s, by simp only, h.out⟩
theorem tell_keeps {m : MS} (h : m.s.err ≠ 0) : m.tell = m := if_neg h

theorem Sm.long (h : Sm pre post O m t) (hs : m.s.Ok) (ht : t.out.length ≤ 2000) (hc : post = [] ∨ (m.long hd).s.err = 0) : Res pre post O (m.long hd) (t.long hd) := by
  have hc2 : post = [] ∨ (m.s.uleb.2.take m.s.uleb.1).2.err = 0 := by
    refine hc.imp id fun q => ?_
    unfold MS.long at q
    simp only at q
    split at q
    · rename_i e; exact absurd q e
    · rename_i e; simpa using e
  obtain ⟨u1, u2⟩ := h.s.uleb hs (hc2.imp id take_err)
  obtain ⟨v1, v2⟩ := u2.take hs.uleb hc2
  unfold MS.long
  simp only
  rw [u1, v1, v2.err]
  split
  · exact .inl ⟨⟨v2, h.row, h.out⟩, ht⟩
  · rename_i e
    have e' : (m.s.uleb.2.take m.s.uleb.1).2.err = 0 := by simpa using e
    split
    · exact .inl ⟨⟨v2.fail 48, h.row, h.out⟩, ht⟩
    · split
      · have := Sm.tell (m := { m with s := (m.s.uleb.2.take m.s.uleb.1).2, row := { m.row with stop := true } }) (t := { t with s := (t.s.uleb.2.take m.s.uleb.1).2, row := { t.row with stop := true } }) (O := O)
          ⟨v2, by simp only [h.row], h.out⟩ e' ht
        rcases this with ⟨k1, k2⟩ | ⟨k1, k2⟩
        · exact .inl ⟨⟨k1.s, rfl, k1.out⟩, k2⟩
        · exact .inr ⟨k1, k2⟩
      · split
        · exact .inl ⟨⟨v2, by simp only [h.row], h.out⟩, ht⟩
        · split
          · split
            · exact .inl ⟨⟨v2.fail 48, by simp only [MS.fail, h.row], h.out⟩, ht⟩
            · exact .inl ⟨⟨v2, by simp only [h.row], h.out⟩, ht⟩
          · exact .inl ⟨⟨v2, h.row, h.out⟩, ht⟩

theorem Sm.standard (h : Sm pre post O m t) (hs : m.s.Ok) (h0 : m.s.err = 0) (ht : t.out.length ≤ 2000) (c : Nat) (hc : post = [] ∨ (m.standard hd c).s.err = 0) : Res pre post O (m.standard hd c) (t.standard hd c) := by
  unfold MS.standard at hc ⊢
  split at hc
  · exact h.long hs ht hc
  · exact h.tell h0 ht
  · obtain ⟨u1, u2⟩ := h.s.uleb hs hc
    simp only [u1]
    exact .inl ⟨Sm.by (hd := hd) (m := { m with s := m.s.uleb.2 }) (t := { t with s := t.s.uleb.2 }) ⟨u2, h.row, h.out⟩ _, ht⟩
  · have hc2 : post = [] ∨ m.s.sleb.2.err = 0 := hc.imp id fun q => by
      unfold MS.line at q
      split at q
      · exact absurd q (fail_err (by omega))
      · exact q
    obtain ⟨u1, u2⟩ := h.s.sleb hs hc2
    simp only [u1]
    have := Sm.line (m := { m with s := m.s.sleb.2 }) (t := { t with s := t.s.sleb.2 }) (O := O) ⟨u2, h.row, h.out⟩ m.s.sleb.1
    refine .inl ⟨this, ?_⟩
    have ho : (MS.line { t with s := t.s.sleb.2 } m.s.sleb.1).out = t.out := by unfold MS.line; split <;> rfl
    rw [ho]; exact ht
  · obtain ⟨u1, u2⟩ := h.s.small hs hc
    simp only [u1]
    exact .inl ⟨⟨u2, by simp only [h.row], h.out⟩, ht⟩
  · obtain ⟨u1, u2⟩ := h.s.small hs hc
    simp only [u1]
    exact .inl ⟨⟨u2, by simp only [h.row], h.out⟩, ht⟩
  · exact .inl ⟨⟨h.s, by simp only [h.row], h.out⟩, ht⟩
  · exact .inl ⟨⟨h.s, by simp only [h.row], h.out⟩, ht⟩
  · exact .inl ⟨h.by _, ht⟩
  · obtain ⟨u1, u2⟩ := h.s.take hs hc
    simp only [u1]
    exact .inl ⟨⟨u2, by simp only [h.row], h.out⟩, ht⟩
  · exact .inl ⟨⟨h.s, by simp only [h.row], h.out⟩, ht⟩
  · exact .inl ⟨⟨h.s, by simp only [h.row], h.out⟩, ht⟩
  · obtain ⟨u1, u2⟩ := h.s.uleb hs hc
    simp only [u1]
    exact .inl ⟨⟨u2, by simp only [h.row], h.out⟩, ht⟩
  · exact .inl ⟨⟨h.s.ulebs _ hs hc, h.row, h.out⟩, ht⟩

theorem Sm.special (h : Sm pre post O m t) (h0 : m.s.err = 0) (ht : t.out.length ≤ 2000) (c : Int) : Res pre post O (m.special hd c) (t.special hd c) := by
  unfold MS.special
  simp only
  have h1 := (h.by (hd := hd) (IntKind.u64.wrap (IntKind.i64.wrap ((IntKind.i64.wrap (c - hd.codes)).tdiv hd.range)))).line (IntKind.i64.wrap (hd.base + (IntKind.i64.wrap (c - hd.codes)).tmod hd.range))
  have ho : ((t.by hd (IntKind.u64.wrap (IntKind.i64.wrap ((IntKind.i64.wrap (c - hd.codes)).tdiv hd.range)))).line (IntKind.i64.wrap (hd.base + (IntKind.i64.wrap (c - hd.codes)).tmod hd.range))).out = t.out := by unfold MS.line; split <;> rfl
  generalize (m.by hd (IntKind.u64.wrap (IntKind.i64.wrap ((IntKind.i64.wrap (c - hd.codes)).tdiv hd.range)))).line (IntKind.i64.wrap (hd.base + (IntKind.i64.wrap (c - hd.codes)).tmod hd.range)) = m1 at h1 ⊢
  generalize (t.by hd (IntKind.u64.wrap (IntKind.i64.wrap ((IntKind.i64.wrap (c - hd.codes)).tdiv hd.range)))).line (IntKind.i64.wrap (hd.base + (IntKind.i64.wrap (c - hd.codes)).tmod hd.range)) = t1 at h1 ho ⊢
  have ht1 : t1.out.length ≤ 2000 := by rw [ho]; exact ht
  by_cases e : m1.s.err = 0
  · exact h1.tell e ht1
  · have e' : ¬ t1.s.err = 0 := by rw [h1.s.err]; exact e
    rw [tell_keeps e, tell_keeps e']
    exact .inl ⟨h1, ht1⟩

theorem Sm.step (h : Sm pre post O m t) (hs : m.s.Ok) (hl : m.s.left > 0) (ht : t.out.length ≤ 2000) (hc : post = [] ∨ (m.step hd).s.err = 0) : Res pre post O (m.step hd) (t.step hd) := by
  obtain ⟨hl1, he⟩ := take_less hl
  obtain ⟨u1, u2⟩ := h.s.take hs (n := 1) (.inr he)
  have h1 : Sm pre post O { m with s := (m.s.take 1).2 } { t with s := (t.s.take 1).2 } := ⟨u2, h.row, h.out⟩
  unfold MS.step at hc ⊢
  simp only at hc ⊢
  rw [u1]
  split
  · exact h1.special he ht _
  · rename_i c
    rw [if_neg c] at hc
    exact h1.standard (hs.take 1) he ht _ hc

theorem Sh.left {s t : CS} (h : Sh pre post s t) (hs : s.Ok) (h0 : s.err = 0) : t.left = s.left + post.length := by
  unfold CS.left
  rw [h.err, if_pos h0, if_pos h0, h.b, h.pos]
  have := hs.1
  simp
  omega

theorem runs_done {n : Nat} (h : m.s.err ≠ 0) : runs hd n m = m := runs_none (by unfold CS.left; rw [if_neg h])

/-- Behind what was run without an error the run goes on. -/
theorem runs_into : ∀ (n : Nat) {m t : MS} {N : Nat}, m.s.Ok → t.s.Ok → m.s.left ≤ n → t.s.left ≤ N → m.out.length ≤ 2000 → Sm pre post [] m t → (runs hd n m).s.err = 0 →
    ∃ t1, Sm pre post [] (runs hd n m) t1 ∧ runs hd N t = runs hd N t1 ∧ t1.s.Ok := by
  intro n
  induction n with
  | zero => intro m t N _ ht _ _ _ h _; exact ⟨t, h, rfl, ht⟩
  | succ n ih =>
    intro m t N hs hts hn hN ho h he
    by_cases hl : m.s.left > 0
    · have hm := step_less (hd := hd) hs hl
      have h0 : m.s.err = 0 := by unfold CS.left at hl; split at hl; assumption; omega
      have hlt := h.s.left hs h0
      have hsl := step_less (hd := hd) hts (by omega)
      have hrun : runs hd (n + 1) m = runs hd n (m.step hd) := by simp only [runs]; rw [if_pos hl]
      rw [hrun] at he ⊢
      have hse : (m.step hd).s.err = 0 := by
        by_cases e : (m.step hd).s.err = 0
        · exact e
        · rw [runs_done e] at he; exact he
      have hto : t.out.length ≤ 2000 := by rw [h.out]; simpa using ho
      rcases h.step (hd := hd) hs hl hto (.inr hse) with ⟨k1, k2⟩ | ⟨k1, k2⟩
      · obtain ⟨t1, a1, a2, a3⟩ := ih (m := m.step hd) (t := t.step hd) (N := N) hm.2.1 hsl.2.1 (by omega) (by omega) (hm.2.2.2 ho) k1 he
        exact ⟨t1, a1, by rw [runs_step hts (by omega) hN, a2], a3⟩
      · exfalso
        rcases k2 with k2 | k2
        · exact k2 hse
        · have := hm.2.2.2 ho
          simp at k2; omega
    · rw [show runs hd (n + 1) m = m by simp only [runs]; rw [if_neg hl]]
      exact ⟨t, h, rfl, hts⟩

theorem tell_more (m : MS) : m.out.length ≤ m.tell.out.length := by
  unfold MS.tell
  split
  · split
    · exact Nat.le_refl _
    · simp
  · exact Nat.le_refl _
theorem line_more (m : MS) (n : Int) : m.out.length ≤ (m.line n).out.length := by
  unfold MS.line; split <;> exact Nat.le_refl _
theorem long_more (m : MS) : m.out.length ≤ (m.long hd).out.length := by
  unfold MS.long
  simp only
  split
  · exact Nat.le_refl _
  · split
    · exact Nat.le_refl _
    · split
      · exact tell_more { m with s := (m.s.uleb.2.take m.s.uleb.1).2, row := { m.row with stop := true } }
      · split
        · exact Nat.le_refl _
        · split
          · split <;> exact Nat.le_refl _
          · exact Nat.le_refl _
theorem standard_more (m : MS) (c : Nat) : m.out.length ≤ (m.standard hd c).out.length := by
  unfold MS.standard
  split
  · exact long_more m
  · exact tell_more m
  · exact Nat.le_refl _
  · exact line_more { m with s := m.s.sleb.2 } _
  all_goals exact Nat.le_refl _
theorem step_more (m : MS) : m.out.length ≤ (m.step hd).out.length := by
  unfold MS.step
  simp only
  split
  · unfold MS.special
    simp only
    exact Nat.le_trans (line_more (({ m with s := (m.s.take 1).2 } : MS).by hd _) _) (tell_more _)
  · exact standard_more { m with s := (m.s.take 1).2 } _
theorem runs_more : ∀ (n : Nat) (m : MS), m.out.length ≤ (runs hd n m).out.length := by
  intro n
  induction n with
  | zero => intro m; exact Nat.le_refl _
  | succ n ih =>
    intro m
    simp only [runs]
    split
    · exact Nat.le_trans (step_more m) (ih _)
    · exact Nat.le_refl _

/-- A run behind others: the same, or too many rows. -/
theorem runs_after : ∀ (n : Nat) {m t : MS} {N : Nat}, m.s.Ok → t.s.Ok → m.s.left ≤ n → t.s.left ≤ N → m.out.length ≤ 2000 → t.out.length ≤ 2000 → Sm pre [] O m t →
    (Sm pre [] O (runs hd n m) (runs hd N t) ∧ (runs hd N t).out.length ≤ 2000) ∨ ((runs hd N t).s.err = 3 ∧ ((runs hd n m).s.err ≠ 0 ∨ 2000 < O.length + (runs hd n m).out.length)) := by
  intro n
  induction n with
  | zero =>
    intro m t N hs hts hn hN ho hto h
    have hl : t.s.left = 0 := by
      by_cases e : m.s.err = 0
      · rw [h.s.left hs e]; simp; omega
      · unfold CS.left; rw [h.s.err, if_neg e]
    rw [runs_none hl]
    exact .inl ⟨h, hto⟩
  | succ n ih =>
    intro m t N hs hts hn hN ho hto h
    by_cases hl : m.s.left > 0
    · have hm := step_less (hd := hd) hs hl
      have h0 : m.s.err = 0 := by unfold CS.left at hl; split at hl; assumption; omega
      have hlt := h.s.left hs h0
      have hsl := step_less (hd := hd) hts (by omega)
      have hrun : runs hd (n + 1) m = runs hd n (m.step hd) := by simp only [runs]; rw [if_pos hl]
      have hrun2 : runs hd (n + 1) (m.step hd) = runs hd n (m.step hd) := runs_enough n hm.2.1 (by omega) 1
      rw [runs_step hts (by omega) hN]
      rcases h.step (hd := hd) hs hl hto (.inl rfl) with ⟨k1, k2⟩ | ⟨k1, k2⟩
      · rw [hrun]
        rcases ih (m := m.step hd) (t := t.step hd) (N := N) hm.2.1 hsl.2.1 (by omega) (by omega) (hm.2.2.2 ho) k2 k1 with a | ⟨a1, a2⟩
        · exact .inl a
        · exact .inr ⟨a1, a2⟩
      · have hne : (t.step hd).s.err ≠ 0 := by rw [k1]; omega
        rw [runs_done hne]
        refine .inr ⟨k1, ?_⟩
        rcases k2 with k2 | k2
        · left; rw [hrun, runs_done k2]; exact k2
        · right; rw [hrun]; have := runs_more (hd := hd) n (m.step hd); omega
    · have hl' : t.s.left = 0 := by
        by_cases e : m.s.err = 0
        · rw [h.s.left hs e]; simp; omega
        · unfold CS.left; rw [h.s.err, if_neg e]
      rw [runs_none hl', show runs hd (n + 1) m = m by simp only [runs]; rw [if_neg hl]]
      exact .inl ⟨h, hto⟩
end
end Go.Ab
end

section
/- Line programs that are run: how many rows. -/
namespace Go.Ab
open V Go.Proofs
set_option linter.unusedSimpArgs false
set_option linter.unusedVariables false

theorem runs_out {hd : HD} : ∀ (n : Nat) {m : MS}, m.s.Ok → m.out.length ≤ 2000 → (runs hd n m).out.length ≤ 2000 := by
  intro n
  induction n with
  | zero => intro m _ h; exact h
  | succ n ih =>
    intro m hs h
    simp only [runs]
    split
    · rename_i hl
      have := step_less (hd := hd) hs hl
      exact ih this.2.1 (this.2.2.2 h)
    · exact h
theorem init_ok {hd : HD} {b : List UInt8} (hb : b.length < 4611686018427387904) : (MS.init hd b).s.Ok := by unfold CS.Ok MS.init; simp only; omega
theorem runR_len {hd : HD} {b : List UInt8} (hb : b.length < 4611686018427387904) : (runR hd b).1.length ≤ 2000 := by
  have := runs_out (hd := hd) b.length (init_ok (hd := hd) hb) (by simp [MS.init])
  unfold runR
  split
  · split
    · simp
    · split
      · simp
      · exact this
  · simp

end Go.Ab
end

section
/- Line programs one behind the other: what is told. -/
namespace Go.Ab
open V Go.Proofs
set_option maxHeartbeats 4000000
set_option linter.unusedSimpArgs false
set_option linter.unusedVariables false

section
variable {hd : HD}

theorem runs_end : ∀ (n : Nat) {m : MS}, m.s.Ok → m.s.left ≤ n → (runs hd n m).s.left = 0 ∧ (runs hd n m).s.Ok ∧ (runs hd n m).s.b = m.s.b := by
  intro n
  induction n with
  | zero => intro m h hl; exact ⟨by show m.s.left = 0; omega, h, rfl⟩
  | succ n ih =>
    intro m h hl
    simp only [runs]
    split
    · rename_i hl'
      have := step_less (hd := hd) h hl'
      obtain ⟨k1, k2, k3⟩ := ih (m := m.step hd) this.2.1 (by omega)
      exact ⟨k1, k2, k3.trans this.2.2.1⟩
    · exact ⟨by omega, h, rfl⟩

theorem init_left (b : List UInt8) : (MS.init hd b).s.left ≤ b.length := by
  show (CS.mk b 0 0).left ≤ b.length
  unfold CS.left
  simp

def seqEnd : List UInt8 := [0, 1, 1]

/-- An end of a sequence alone. -/
theorem end_step (hc : 1 ≤ hd.codes) (r : RW) : (MS.mk ⟨seqEnd, 0, 0⟩ r []).step hd = ⟨⟨seqEnd, 3, 0⟩, RW.start hd, [{ r with stop := true }]⟩ := by
  have h : (MS.mk ⟨seqEnd, 0, 0⟩ r []).step hd = (MS.mk ⟨seqEnd, 1, 0⟩ r []).long hd := by
    unfold MS.step
    simp only
    rw [if_neg]
    · rfl
    · rintro ⟨h1, h2⟩
      have : le ((CS.mk seqEnd 0 0).take 1).1 = 0 := by decide
      rw [this] at h2
      omega
  rw [h]
  rfl

theorem Ok_init {b : List UInt8} (hb : b.length < 100000) : (MS.init hd b).s.Ok := by unfold CS.Ok MS.init; simp only; omega

/-- Where a run ends that has no error. -/
theorem end_pos {m : MS} (hs : m.s.Ok) (h0 : m.s.err = 0) (hl : m.s.left = 0) : m.s.pos = m.s.b.length := by
  unfold CS.left at hl
  rw [if_pos h0] at hl
  have := hs.1
  omega

theorem cs_eta {s : CS} {b : List UInt8} {p : Nat} {e : Int} (h1 : s.b = b) (h2 : s.pos = p) (h3 : s.err = e) : s = ⟨b, p, e⟩ := by
  cases s; simp_all

theorem runR_of {b : List UInt8} (hR : hd.Right) (e : (runs hd b.length (MS.init hd b)).s.err = 0) : runR hd b = if lastBad (runs hd b.length (MS.init hd b)).out = true then ([], 48) else ((runs hd b.length (MS.init hd b)).out, 0) := by
  unfold runR
  rw [if_pos hR, if_neg (by simpa using e)]
theorem runR_bad {b : List UInt8} (hR : hd.Right) (e : (runs hd b.length (MS.init hd b)).s.err ≠ 0) : runR hd b = ([], (runs hd b.length (MS.init hd b)).s.err) := by
  unfold runR
  rw [if_pos hR, if_pos e]
theorem lastBad_snoc (l : List RW) (r : RW) : lastBad (l ++ [r]) = !r.stop := by
  unfold lastBad; simp
theorem lastBad_app (l m : List RW) (h : m ≠ []) : lastBad (l ++ m) = lastBad m := by
  unfold lastBad
  rw [List.getLast?_append]
  cases hq : m.getLast? with
  | none => exact absurd (List.getLast?_eq_none_iff.1 hq) h
  | some r => rfl

theorem chains {a b : List UInt8} (ha : a.length ≤ 1500) (hb : b.length ≤ 1500) (h : (runR hd a).2 = 0) :
    ((runR hd (a ++ seqEnd)).2 ≠ 0 → (runR hd (a ++ seqEnd ++ b)).2 = 3 ∧ (runR hd (a ++ seqEnd)).2 = 3) ∧
    ((runR hd (a ++ seqEnd)).2 = 0 →
      ((runR hd b).2 ≠ 0 → (runR hd (a ++ seqEnd ++ b)).2 ≠ 0 ∧ (runR hd (a ++ seqEnd ++ b)).1 = []) ∧
      ((runR hd b).2 = 0 →
        (2000 < (runR hd (a ++ seqEnd)).1.length + (runR hd b).1.length → (runR hd (a ++ seqEnd ++ b)).2 = 3) ∧
        (¬ 2000 < (runR hd (a ++ seqEnd)).1.length + (runR hd b).1.length → (runR hd (a ++ seqEnd ++ b)).2 = 0 ∧ (runR hd (a ++ seqEnd ++ b)).1 = (runR hd (a ++ seqEnd)).1 ++ (runR hd b).1))) := by
  have hR : hd.Right := by
    by_cases hR : hd.Right
    · exact hR
    · unfold runR at h; rw [if_neg hR] at h; cases h
  have hcodes : 1 ≤ hd.codes := hR.1.2.2.2.1.1
  have hle : seqEnd.length = 3 := rfl
  have hM0 : (runs hd a.length (MS.init hd a)).s.err = 0 := by
    by_cases e : (runs hd a.length (MS.init hd a)).s.err = 0
    · exact e
    · rw [runR_bad hR e] at h; exact h
  have oka : (MS.init hd a).s.Ok := Ok_init (by omega)
  have okx : (MS.init hd (a ++ seqEnd)).s.Ok := Ok_init (by simp; omega)
  have okz : (MS.init hd (a ++ seqEnd ++ b)).s.Ok := Ok_init (by simp; omega)
  have okb : (MS.init hd b).s.Ok := Ok_init (by omega)
  obtain ⟨el, eok, eb⟩ := runs_end (hd := hd) a.length oka (init_left a)
  have epos := end_pos eok hM0 el
  have eout := runs_out (hd := hd) a.length oka (by simp [MS.init])
  -- the end of a, in a ++ seqEnd
  have smx : Sm [] seqEnd [] (MS.init hd a) (MS.init hd (a ++ seqEnd)) := ⟨⟨by simp [MS.init], rfl, rfl⟩, rfl, rfl⟩
  obtain ⟨t1, s1, r1, k1⟩ := runs_into (hd := hd) a.length (N := (a ++ seqEnd).length) oka okx (init_left a) (init_left _) (by simp [MS.init]) smx hM0
  have smz : Sm [] (seqEnd ++ b) [] (MS.init hd a) (MS.init hd (a ++ seqEnd ++ b)) := ⟨⟨by simp [MS.init], rfl, rfl⟩, rfl, rfl⟩
  obtain ⟨t2, s2, r2, k2⟩ := runs_into (hd := hd) a.length (N := (a ++ seqEnd ++ b).length) oka okz (init_left a) (init_left _) (by simp [MS.init]) smz hM0
  generalize hM : runs hd a.length (MS.init hd a) = M at *
  rw [show (MS.init hd a).s.b = a from rfl] at eb
  have b1 : t1.s.b = a ++ seqEnd ++ [] := by rw [s1.s.b, eb]; simp
  have b2 : t2.s.b = a ++ seqEnd ++ b := by rw [s2.s.b, eb]; simp
  have m1 : Sm a [] M.out (MS.mk ⟨seqEnd, 0, 0⟩ M.row []) t1 := ⟨⟨b1, by rw [s1.s.pos, epos, eb]; simp, by rw [s1.s.err, hM0]⟩, s1.row, by rw [s1.out]; simp⟩
  have m2 : Sm a b M.out (MS.mk ⟨seqEnd, 0, 0⟩ M.row []) t2 := ⟨⟨b2, by rw [s2.s.pos, epos, eb]; simp, by rw [s2.s.err, hM0]⟩, s2.row, by rw [s2.out]; simp⟩
  have okm : (MS.mk ⟨seqEnd, 0, 0⟩ M.row []).s.Ok := by unfold CS.Ok; simp [seqEnd]
  have lm : (MS.mk ⟨seqEnd, 0, 0⟩ M.row []).s.left = 3 := rfl
  have o1 : t1.out.length ≤ 2000 := by rw [s1.out]; simpa using eout
  have o2 : t2.out.length ≤ 2000 := by rw [s2.out]; simpa using eout
  have res1 := m1.step (hd := hd) okm (by omega) o1 (.inl rfl)
  have res2 := m2.step (hd := hd) okm (by omega) o2 (.inr (by rw [end_step hcodes]))
  rw [end_step hcodes] at res1 res2
  have lt1 : t1.s.left = 3 := by rw [m1.s.left okm rfl, lm]; rfl
  have lt2 : t2.s.left = 3 + b.length := by rw [m2.s.left okm rfl, lm]
  have x1 : runs hd (a ++ seqEnd).length (MS.init hd (a ++ seqEnd)) = runs hd (a ++ seqEnd).length (t1.step hd) := by
    rw [r1]; exact runs_step k1 (by omega) (by rw [lt1]; simp; omega)
  have z1 : runs hd (a ++ seqEnd ++ b).length (MS.init hd (a ++ seqEnd ++ b)) = runs hd (a ++ seqEnd ++ b).length (t2.step hd) := by
    rw [r2]; exact runs_step k2 (by omega) (by rw [lt2]; simp; omega)
  rcases res1 with ⟨q1, q2⟩ | ⟨q1, q2⟩
  · -- the end of the sequence is told
    have e1 : (t1.step hd).s.err = 0 := q1.s.err
    have l1 : (t1.step hd).s.left = 0 := by rw [q1.s.left (by unfold CS.Ok; simp [seqEnd]) rfl]; rfl
    rw [runs_none l1] at x1
    have ex : runR hd (a ++ seqEnd) = (M.out ++ [{ M.row with stop := true }], 0) := by
      rw [runR_of hR (by rw [x1]; exact e1), x1, q1.out, if_neg (by rw [lastBad_snoc]; simp)]
    have eX : (runs hd (a ++ seqEnd).length (MS.init hd (a ++ seqEnd))).s.err = 0 := by rw [x1]; exact e1
    -- what b tells, behind it
    have smb : Sm [] b [] (MS.init hd (a ++ seqEnd)) (MS.init hd (a ++ seqEnd ++ b)) := ⟨⟨by simp [MS.init], rfl, rfl⟩, rfl, rfl⟩
    obtain ⟨t3, s3, r3, k3⟩ := runs_into (hd := hd) (a ++ seqEnd).length (N := (a ++ seqEnd ++ b).length) okx okz (init_left _) (init_left _) (by simp [MS.init]) smb eX
    rw [x1] at s3
    have sb : Sm (a ++ seqEnd) [] (M.out ++ [{ M.row with stop := true }]) (MS.init hd b) t3 := by
      refine ⟨⟨?_, ?_, ?_⟩, ?_, ?_⟩
      · rw [s3.s.b, q1.s.b]; simp [MS.init]
      · rw [s3.s.pos, q1.s.pos]; simp [MS.init, seqEnd]
      · rw [s3.s.err, e1]; rfl
      · rw [s3.row, q1.row]; rfl
      · rw [s3.out, q1.out]; simp [MS.init]
    have o3 : t3.out.length ≤ 2000 := by rw [s3.out]; simpa using q2
    have after := runs_after (hd := hd) b.length (N := (a ++ seqEnd ++ b).length) okb k3 (init_left b) (by
      rw [sb.s.left okb rfl]; have := init_left (hd := hd) b; simp; omega) (by simp [MS.init]) o3 sb
    rw [← r3] at after
    rw [ex]
    refine ⟨fun c => absurd rfl c, fun _ => ?_⟩
    generalize hZ : runs hd (a ++ seqEnd ++ b).length (MS.init hd (a ++ seqEnd ++ b)) = Z at after
    generalize hB : runs hd b.length (MS.init hd b) = B at after
    by_cases eB : B.s.err = 0
    · have yb : runR hd b = if lastBad B.out = true then ([], 48) else (B.out, 0) := by rw [runR_of hR (by rw [hB]; exact eB), hB]
      rcases after with ⟨c1, c2⟩ | ⟨c1, c2⟩
      · have eZ : Z.s.err = 0 := by rw [c1.s.err]; exact eB
        have yz : runR hd (a ++ seqEnd ++ b) = if lastBad Z.out = true then ([], 48) else (Z.out, 0) := by rw [runR_of hR (by rw [hZ]; exact eZ), hZ]
        have hlen : (M.out ++ [({ M.row with stop := true } : RW)]).length + B.out.length ≤ 2000 := by rw [c1.out, List.length_append] at c2; exact c2
        by_cases lb : lastBad B.out = true
        · rw [if_pos lb] at yb
          have hne : B.out ≠ [] := by intro e; rw [e] at lb; cases lb
          have lz : lastBad Z.out = true := by rw [c1.out, lastBad_app _ _ hne]; exact lb
          rw [if_pos lz] at yz
          rw [yb, yz]
          exact ⟨fun _ => ⟨by simp, rfl⟩, fun c => by simp at c⟩
        · rw [if_neg lb] at yb
          have lz : ¬ lastBad Z.out = true := by
            by_cases hne : B.out = []
            · rw [c1.out, hne, List.append_nil, lastBad_snoc]; simp
            · rw [c1.out, lastBad_app _ _ hne]; exact lb
          rw [if_neg lz] at yz
          rw [yb, yz]
          refine ⟨fun c => absurd rfl c, fun _ => ⟨fun c => ?_, fun _ => ⟨rfl, c1.out⟩⟩⟩
          simp only [List.length_append, List.length_cons, List.length_nil] at c hlen; omega
      · have c2 : 2000 < (M.out ++ [({ M.row with stop := true } : RW)]).length + B.out.length := c2.resolve_left (by simpa using eB)
        have yz : runR hd (a ++ seqEnd ++ b) = ([], 3) := by rw [runR_bad hR (by rw [hZ, c1]; omega), hZ, c1]
        rw [yz]
        refine ⟨fun _ => ⟨by simp, rfl⟩, fun c => ?_⟩
        have : (runR hd b).1 = B.out := by
          rw [yb] at c ⊢
          split at c
          · cases c
          · rename_i lb; rw [if_neg lb]
        rw [this]
        exact ⟨fun _ => rfl, fun d => absurd c2 d⟩
    · have yb : runR hd b = ([], B.s.err) := by rw [runR_bad hR (by rw [hB]; exact eB), hB]
      have eZ : Z.s.err ≠ 0 := by
        rcases after with ⟨c1, c2⟩ | ⟨c1, c2⟩
        · rw [c1.s.err]; exact eB
        · rw [c1]; omega
      have yz : runR hd (a ++ seqEnd ++ b) = ([], Z.s.err) := by rw [runR_bad hR (by rw [hZ]; exact eZ), hZ]
      rw [yb, yz]
      exact ⟨fun _ => ⟨eZ, rfl⟩, fun c => absurd c eB⟩
  · -- one row too many
    have q3 : 2000 < M.out.length + 1 := by
      rcases q2 with q2 | q2
      · exact absurd rfl q2
      · exact q2
    have ex : runR hd (a ++ seqEnd) = ([], 3) := by
      have hne : (t1.step hd).s.err ≠ 0 := by rw [q1]; omega
      rw [runs_done hne] at x1
      rw [runR_bad hR (by rw [x1]; exact hne), x1, q1]
    have ez : runR hd (a ++ seqEnd ++ b) = ([], 3) := by
      rcases res2 with ⟨p1, p2⟩ | ⟨p1, p2⟩
      · rw [p1.out, List.length_append] at p2
        simp only [List.length_cons, List.length_nil] at p2
        omega
      · have hne : (t2.step hd).s.err ≠ 0 := by rw [p1]; omega
        rw [runs_done hne] at z1
        rw [runR_bad hR (by rw [z1]; exact hne), z1, p1]
    rw [ex, ez]
    exact ⟨fun _ => ⟨rfl, rfl⟩, fun c => by simp at c⟩
end
end Go.Ab
end

section
/- Package leb: numbers are put. -/
namespace Go.Ab
open V Go.Proofs
set_option maxHeartbeats 4000000
set_option maxRecDepth 10000
set_option linter.unusedSimpArgs false
set_option linter.unusedVariables false

/-- A number's 7-bit parts. -/
def parts7 (n : Nat) : List Nat := if h : n < 128 then [n] else n % 128 :: parts7 (n / 128)
termination_by n
decreasing_by omega

theorem shr7 (n : Nat) : (n : Int).fdiv (2 ^ min 7 64) = ((n / 128 : Nat) : Int) := by
  rw [show min 7 64 = 7 by decide, Int.fdiv_eq_ediv_of_nonneg _ (by decide)]; omega

theorem unsigned_spec {n : Nat} {H : Heap} {Q : A → Heap → Prop} (h : Q (.fn (.func 50) [] [.ptr (some (H.length, 0))]) (H ++ [.cells [.int .u64 n]])) :
    AC Try.prog 28 [.int .u64 n] H Q := by
  refine AC.enter (E := env Try.prog 4 (fun _ => .copy) (fun _ => false)) env_ok Try.func28 rfl rfl rfl (by simp only [List.length_cons, List.length_nil]; exact of_decide_eq_true rfl) ?_
  ((try simp only [go_sem, ↓reduceIte, reduceCtorEq, Nat.reduceLT, Nat.reduceEqDiff, Nat.reduceBEq, Nat.reduceAdd, Nat.reduceMul, Nat.reduceSub, Nat.reduceLeDiff, Int.reduceNeg, Int.reduceLT, Int.reduceLE, Int.reduceEq, Int.reduceAdd, Int.reduceToNat]); repeat ((first | refine AW.seq ?_ | refine AW.region env_ok ?_ | refine AW.region envR_ok ?_ | refine AW.skip ?_ | refine AW.block ?_ | refine AW.exit ?_ | refine AW.ret ?_ | (refine AW.cond (b := true) ?_ ?_; simp only [ev, upd, ↓reduceIte, Nat.reduceEqDiff]; rw [if_pos rfl]) | (refine AW.cond (b := false) ?_ ?_; simp only [ev, upd, ↓reduceIte, Nat.reduceEqDiff]; rw [if_neg Bool.false_ne_true]) | fail) <;> try simp only [go_sem, ↓reduceIte, reduceCtorEq, Nat.reduceLT, Nat.reduceEqDiff, Nat.reduceBEq, Nat.reduceAdd, Nat.reduceMul, Nat.reduceSub, Nat.reduceLeDiff, Int.reduceNeg, Int.reduceLT, Int.reduceLE, Int.reduceEq, Int.reduceAdd, Int.reduceToNat]))
  exact .inl h

/-- The generator of a number's parts: whatever is done with them, K tells the heap by them and by the number that is left. -/
theorem unsigned1_spec {l i : Nat} {K : List Nat → Nat → Heap} (hget : ∀ bs m, (K bs m)[i]? = some (.cells [.int .u64 m])) (hset : ∀ bs m m' : _, (K bs m).set i (.cells [.int .u64 ((m' : Nat) : Int)]) = K bs m')
    {n : Nat} (hy : ∀ bs m (x : Nat) rest, bs ++ x :: rest = parts7 n → x < 128 → AY Try.prog l [.int .u8 x] (K bs m) (fun r H => r = .bool true ∧ H = K (bs ++ [x]) m))
    (hn : n < 18446744073709551616) {Q : A → Heap → Prop} (h : Q (.tup []) (K (parts7 n) 0)) : AC Try.prog 50 [.fn (.yield l) [] [], .ptr (some (i, 0))] (K [] n) Q := by
  refine AC.enter (E := env Try.prog 13 (fun _ => .copy) (fun _ => false)) env_ok Try.func50 rfl rfl rfl (by simp only [List.length_cons, List.length_nil]; exact of_decide_eq_true rfl) ?_
  ((try simp only [go_sem, ↓reduceIte, reduceCtorEq, Nat.reduceLT, Nat.reduceEqDiff, Nat.reduceBEq, Nat.reduceAdd, Nat.reduceMul, Nat.reduceSub, Nat.reduceLeDiff, Int.reduceNeg, Int.reduceLT, Int.reduceLE, Int.reduceEq, Int.reduceAdd, Int.reduceToNat]); repeat ((first | refine AW.seq ?_ | refine AW.region env_ok ?_ | refine AW.region envR_ok ?_ | refine AW.skip ?_ | refine AW.block ?_ | refine AW.exit ?_ | refine AW.ret ?_ | (refine AW.cond (b := true) ?_ ?_; simp only [ev, upd, ↓reduceIte, Nat.reduceEqDiff]; rw [if_pos rfl]) | (refine AW.cond (b := false) ?_ ?_; simp only [ev, upd, ↓reduceIte, Nat.reduceEqDiff]; rw [if_neg Bool.false_ne_true]) | fail) <;> try simp only [go_sem, ↓reduceIte, reduceCtorEq, Nat.reduceLT, Nat.reduceEqDiff, Nat.reduceBEq, Nat.reduceAdd, Nat.reduceMul, Nat.reduceSub, Nat.reduceLeDiff, Int.reduceNeg, Int.reduceLT, Int.reduceLE, Int.reduceEq, Int.reduceAdd, Int.reduceToNat]))
  refine AW.loop (fun st => ∃ bs m, st.σ 0 = .fn (.yield l) [] [] ∧ st.σ 1 = .ptr (some (i, 0)) ∧ st.H = K bs m ∧ m < 18446744073709551616 ∧ bs ++ parts7 m = parts7 n) (fun st => match st.H[i]? with | some (.cells [.int _ m]) => m.toNat | _ => 0) ⟨[], n, rfl, rfl, rfl, hn, rfl⟩ ?_
  rintro ⟨σ, H2⟩ ⟨bs, m, s0, s1, rfl, hm, hp⟩
  simp only at s0 s1
  have h128 : m % 128 < 128 := Nat.mod_lt _ (by omega)
  ((try simp only [go_sem, ↓reduceIte, reduceCtorEq, Nat.reduceLT, Nat.reduceEqDiff, Nat.reduceBEq, Nat.reduceAdd, Nat.reduceMul, Nat.reduceSub, Nat.reduceLeDiff, Int.reduceNeg, Int.reduceLT, Int.reduceLE, Int.reduceEq, Int.reduceAdd, Int.reduceToNat, s0, s1, hget, and127 hm, IntWalk.u8_in _ (show 0 ≤ ((m % 128 : Nat) : Int) ∧ ((m % 128 : Nat) : Int) ≤ 255 by omega)]); repeat ((first | refine AW.seq ?_ | refine AW.region env_ok ?_ | refine AW.region envR_ok ?_ | refine AW.skip ?_ | refine AW.block ?_ | refine AW.exit ?_ | refine AW.ret ?_ | (refine AW.cond (b := true) ?_ ?_; simp only [ev, upd, ↓reduceIte, Nat.reduceEqDiff]; rw [if_pos rfl]) | (refine AW.cond (b := false) ?_ ?_; simp only [ev, upd, ↓reduceIte, Nat.reduceEqDiff]; rw [if_neg Bool.false_ne_true]) | fail) <;> try simp only [go_sem, ↓reduceIte, reduceCtorEq, Nat.reduceLT, Nat.reduceEqDiff, Nat.reduceBEq, Nat.reduceAdd, Nat.reduceMul, Nat.reduceSub, Nat.reduceLeDiff, Int.reduceNeg, Int.reduceLT, Int.reduceLE, Int.reduceEq, Int.reduceAdd, Int.reduceToNat, s0, s1, hget, and127 hm, IntWalk.u8_in _ (show 0 ≤ ((m % 128 : Nat) : Int) ∧ ((m % 128 : Nat) : Int) ≤ 255 by omega)]))
  have hrest : ∃ rest, bs ++ m % 128 :: rest = parts7 n := by
    rw [← hp]
    by_cases c : m < 128
    · exact ⟨[], by rw [parts7, dif_pos c, Nat.mod_eq_of_lt c]⟩
    · exact ⟨parts7 (m / 128), by rw [parts7.eq_def m, dif_neg c]⟩
  obtain ⟨rest, hrest⟩ := hrest
  refine (hy bs m (m % 128) rest hrest h128).mono ?_
  rintro r H ⟨rfl, rfl⟩
  ((try simp only [go_sem, ↓reduceIte, reduceCtorEq, Nat.reduceLT, Nat.reduceEqDiff, Nat.reduceBEq, Nat.reduceAdd, Nat.reduceMul, Nat.reduceSub, Nat.reduceLeDiff, Int.reduceNeg, Int.reduceLT, Int.reduceLE, Int.reduceEq, Int.reduceAdd, Int.reduceToNat, s0, s1, hget, hset, shr7]); repeat ((first | refine AW.seq ?_ | refine AW.region env_ok ?_ | refine AW.region envR_ok ?_ | refine AW.skip ?_ | refine AW.block ?_ | refine AW.exit ?_ | refine AW.ret ?_ | (refine AW.cond (b := true) ?_ ?_; simp only [ev, upd, ↓reduceIte, Nat.reduceEqDiff]; rw [if_pos rfl]) | (refine AW.cond (b := false) ?_ ?_; simp only [ev, upd, ↓reduceIte, Nat.reduceEqDiff]; rw [if_neg Bool.false_ne_true]) | fail) <;> try simp only [go_sem, ↓reduceIte, reduceCtorEq, Nat.reduceLT, Nat.reduceEqDiff, Nat.reduceBEq, Nat.reduceAdd, Nat.reduceMul, Nat.reduceSub, Nat.reduceLeDiff, Int.reduceNeg, Int.reduceLT, Int.reduceLE, Int.reduceEq, Int.reduceAdd, Int.reduceToNat, s0, s1, hget, hset, shr7]))
  by_cases c : m < 128
  · have c1 : ((m / 128 : Nat) : Int) = 0 := by omega
    have c2 : m / 128 = 0 := by omega
    ((try simp only [go_sem, ↓reduceIte, reduceCtorEq, Nat.reduceLT, Nat.reduceEqDiff, Nat.reduceBEq, Nat.reduceAdd, Nat.reduceMul, Nat.reduceSub, Nat.reduceLeDiff, Int.reduceNeg, Int.reduceLT, Int.reduceLE, Int.reduceEq, Int.reduceAdd, Int.reduceToNat, c1]); repeat ((first | refine AW.seq ?_ | refine AW.region env_ok ?_ | refine AW.region envR_ok ?_ | refine AW.skip ?_ | refine AW.block ?_ | refine AW.exit ?_ | refine AW.ret ?_ | (refine AW.cond (b := true) ?_ ?_; simp only [ev, upd, ↓reduceIte, Nat.reduceEqDiff]; rw [if_pos rfl]) | (refine AW.cond (b := false) ?_ ?_; simp only [ev, upd, ↓reduceIte, Nat.reduceEqDiff]; rw [if_neg Bool.false_ne_true]) | fail) <;> try simp only [go_sem, ↓reduceIte, reduceCtorEq, Nat.reduceLT, Nat.reduceEqDiff, Nat.reduceBEq, Nat.reduceAdd, Nat.reduceMul, Nat.reduceSub, Nat.reduceLeDiff, Int.reduceNeg, Int.reduceLT, Int.reduceLE, Int.reduceEq, Int.reduceAdd, Int.reduceToNat, c1]))
    refine .inl ?_
    have e : parts7 m = [m] := by unfold parts7; rw [dif_pos c]
    rw [e] at hp
    rw [c2, Nat.mod_eq_of_lt c, hp]
    exact h
  · have c1 : ¬ ((m / 128 : Nat) : Int) = 0 := by omega
    ((try simp only [go_sem, ↓reduceIte, reduceCtorEq, Nat.reduceLT, Nat.reduceEqDiff, Nat.reduceBEq, Nat.reduceAdd, Nat.reduceMul, Nat.reduceSub, Nat.reduceLeDiff, Int.reduceNeg, Int.reduceLT, Int.reduceLE, Int.reduceEq, Int.reduceAdd, Int.reduceToNat, c1]); repeat ((first | refine AW.seq ?_ | refine AW.region env_ok ?_ | refine AW.region envR_ok ?_ | refine AW.skip ?_ | refine AW.block ?_ | refine AW.exit ?_ | refine AW.ret ?_ | (refine AW.cond (b := true) ?_ ?_; simp only [ev, upd, ↓reduceIte, Nat.reduceEqDiff]; rw [if_pos rfl]) | (refine AW.cond (b := false) ?_ ?_; simp only [ev, upd, ↓reduceIte, Nat.reduceEqDiff]; rw [if_neg Bool.false_ne_true]) | fail) <;> try simp only [go_sem, ↓reduceIte, reduceCtorEq, Nat.reduceLT, Nat.reduceEqDiff, Nat.reduceBEq, Nat.reduceAdd, Nat.reduceMul, Nat.reduceSub, Nat.reduceLeDiff, Int.reduceNeg, Int.reduceLT, Int.reduceLE, Int.reduceEq, Int.reduceAdd, Int.reduceToNat, c1]))
    have e : parts7 m = m % 128 :: parts7 (m / 128) := by rw [parts7, dif_neg c]
    refine ⟨⟨bs ++ [m % 128], m / 128, s0, s1, rfl, by omega, by rw [← hp, e]; simp⟩, ?_⟩
    simp only [hget]
    omega
theorem parts_len {k : Nat} : ∀ {n : Nat}, n < 128 ^ (k + 1) → (parts7 n).length ≤ k + 1 := by
  induction k with
  | zero => intro n h; unfold parts7; rw [dif_pos (by simpa using h)]; simp
  | succ k ih =>
    intro n h
    unfold parts7
    split
    · simp
    · simp only [List.length_cons]
      have : n / 128 < 128 ^ (k + 1) := by rw [Nat.div_lt_iff_lt_mul (by omega)]; rw [Nat.pow_succ] at h; exact h
      have := ih this
      omega
theorem or128 : ∀ x : Nat, x < 128 → bitsI .or .u8 (x : Int) 128 = ((x + 128 : Nat) : Int) := by decide
theorem and127b : ∀ x : Nat, x < 256 → bitsI .and .u8 (x : Int) 127 = ((x % 128 : Nat) : Int) := by decide

theorem parts7_ne (n : Nat) : parts7 n ≠ [] := by unfold parts7; split <;> simp
theorem parts7_lt (n : Nat) : ∀ x ∈ parts7 n, x < 128 := by
  induction n using Nat.strongRecOn with
  | _ n ih =>
    intro x hx
    unfold parts7 at hx
    split at hx
    · simp at hx; omega
    · rcases List.mem_cons.1 hx with rfl | hx
      · omega
      · exact ih (n / 128) (by omega) x hx
/-- Parts, each with its highest bit. -/
def enc (bs : List Nat) : List UInt8 := bs.map fun x => UInt8.ofNat (x + 128)

theorem one_two (H : Heap) (a b : Ob Unit) : H ++ [a] ++ [b] = H ++ [a, b] := by simp
theorem one_l (H : Heap) (a : Ob Unit) : (H ++ [a]).length = H.length + 1 := by simp
theorem uni_i1 (k : IntKind) (n : Int) : Uni 1 ([.int k n] : List A) = true := rfl
attribute [go_sem] one_two one_l uni_i1
theorem put_spec {b : List UInt8} {k n : Nat} {H : Heap} {Q : A → Heap → Prop} (hb : b.length < 140737488355000) (hk : k ≤ b.length) (hn : n < 18446744073709551616)
    (h : Q (.sl (bA (b ++ enc (parts7 n).dropLast ++ [UInt8.ofNat ((parts7 n).getLastD 0)])) (some k) ()) (H ++ [.cells [.int .u64 0]])) :
    AC Try.prog 27 [.sl (bA b) (some k) (), .fn (.func 50) [] [.ptr (some (H.length, 0))]] (H ++ [.cells [.int .u64 n]]) Q := by
  refine AC.enter (E := env Try.prog 29 (fun t => if t == 11 || t == 28 then .take else .copy) (fun _ => false)) env_ok Try.func27 rfl rfl rfl (by simp only [List.length_cons, List.length_nil]; exact of_decide_eq_true rfl) ?_
  ((try simp only [go_sem, ↓reduceIte, reduceCtorEq, Nat.reduceLT, Nat.reduceEqDiff, Nat.reduceBEq, Nat.reduceAdd, Nat.reduceMul, Nat.reduceSub, Nat.reduceLeDiff, Int.reduceNeg, Int.reduceLT, Int.reduceLE, Int.reduceEq, Int.reduceAdd, Int.reduceToNat]); repeat ((first | refine AW.seq ?_ | refine AW.regionX env_ok (fun t => t == 7 || t == 16 || t == 20 || t == 21) ?_ | refine AW.regionX envR_ok (fun t => t == 7 || t == 16 || t == 20 || t == 21) ?_ | refine AW.skip ?_ | refine AW.block ?_ | refine AW.exit ?_ | refine AW.ret ?_ | (refine AW.cond (b := true) ?_ ?_; simp only [ev, upd, ↓reduceIte, Nat.reduceEqDiff]; rw [if_pos rfl]) | (refine AW.cond (b := false) ?_ ?_; simp only [ev, upd, ↓reduceIte, Nat.reduceEqDiff]; rw [if_neg Bool.false_ne_true]) | fail) <;> try simp only [go_sem, ↓reduceIte, reduceCtorEq, Nat.reduceLT, Nat.reduceEqDiff, Nat.reduceBEq, Nat.reduceAdd, Nat.reduceMul, Nat.reduceSub, Nat.reduceLeDiff, Int.reduceNeg, Int.reduceLT, Int.reduceLE, Int.reduceEq, Int.reduceAdd, Int.reduceToNat]))
  refine AW.gen (fun st => st.σ 2 = .ptr (some (H.length + 1, 0)) ∧ st.σ 5 = .int .i64 b.length ∧ st.σ 9 = .fn (.func 50) [] [.ptr (some (H.length, 0))] ∧ st.H = H ++ [Ob.cells [.int .u64 n], Ob.cells [.sl (bA b) (some k) ()]]) ⟨rfl, rfl, rfl, rfl⟩ ?_
  rintro ⟨σ, H2⟩ ⟨s2, s5, s9, rfl⟩
  simp only at s2 s5 s9
  refine AW.rangeFunc (first := []) (cap := [.ptr (some (H.length, 0))]) env_ok rfl Try.func50 rfl rfl s9 rfl ?_
  intro l r r1 r2 r3 r4 r5
  rw [three]
  have hp10 : (parts7 n).length ≤ 10 := parts_len (k := 9) (by omega)
  have hK : ∀ m, H ++ [Ob.cells [.int .u64 (m : Nat)], Ob.cells [.sl (bA b) (some k) ()], Ob.loop l r (tmpsOf 29 σ)] =
      (fun bs m => H ++ [Ob.cells [.int .u64 (m : Nat)], Ob.cells [.sl (bA (b ++ enc bs)) (some k) ()], Ob.loop l r (tmpsOf 29 σ)]) [] m := by intro m; simp [enc]
  refine (congrArg (fun G => AC Try.prog 50 [.fn (.yield l) [] [], .ptr (some (H.length, 0))] G _) (hK n)).mpr ?_
  refine unsigned1_spec (n := n) (K := fun bs m => H ++ [Ob.cells [.int .u64 (m : Nat)], Ob.cells [.sl (bA (b ++ enc bs)) (some k) ()], Ob.loop l r (tmpsOf 29 σ)]) (fun bs m => three_0 ..) (fun bs m m' => three_s0 ..) ?_ hn ?_
  · intro bs m x rest hrest hx
    have hlen : bs.length < 10 := by have := congrArg List.length hrest; simp at this; omega
    refine AY.one (E := envR Try.prog 29 (fun t => if t == 11 || t == 28 then .take else .copy) (fun _ => false)) rfl (i := H.length + 2) (three_2 ..) r1 r3 (by decide) r4 r5 ?_
    have hel : (enc bs).length = bs.length := by simp [enc]
    have hkl : k ≤ (b ++ enc bs).length := by simp; omega
    have hcap : (b ++ enc bs).length ≤ 140737488355327 := by simp [hel]; omega
    have hap : bA (b ++ enc bs) ++ ([V.int IntKind.u8 ((x + 128 : Nat) : Int)] : List A) = bA (b ++ enc (bs ++ [x])) := by
      simp only [bA, enc, List.map_append, List.map_cons, List.map_nil, ← List.append_assoc, byteA]
      rw [show (UInt8.ofNat (x + 128)).toNat = x + 128 by simp; omega]
    ((try simp only [go_sem, ↓reduceIte, reduceCtorEq, Nat.reduceLT, Nat.reduceEqDiff, Nat.reduceBEq, Nat.reduceAdd, Nat.reduceMul, Nat.reduceSub, Nat.reduceLeDiff, Int.reduceNeg, Int.reduceLT, Int.reduceLE, Int.reduceEq, Int.reduceAdd, Int.reduceToNat, s2, hkl, hcap, or128 x hx, hap, over_normal r1 r2]); repeat ((first | refine AW.seq ?_ | refine AW.region env_ok ?_ | refine AW.region envR_ok ?_ | refine AW.skip ?_ | refine AW.block ?_ | refine AW.exit ?_ | refine AW.ret ?_ | (refine AW.cond (b := true) ?_ ?_; simp only [ev, upd, ↓reduceIte, Nat.reduceEqDiff]; rw [if_pos rfl]) | (refine AW.cond (b := false) ?_ ?_; simp only [ev, upd, ↓reduceIte, Nat.reduceEqDiff]; rw [if_neg Bool.false_ne_true]) | fail) <;> try simp only [go_sem, ↓reduceIte, reduceCtorEq, Nat.reduceLT, Nat.reduceEqDiff, Nat.reduceBEq, Nat.reduceAdd, Nat.reduceMul, Nat.reduceSub, Nat.reduceLeDiff, Int.reduceNeg, Int.reduceLT, Int.reduceLE, Int.reduceEq, Int.reduceAdd, Int.reduceToNat, s2, hkl, hcap, or128 x hx, hap, over_normal r1 r2]))
  · refine ⟨H ++ [Ob.cells [.int .u64 0], Ob.cells [.sl (bA (b ++ enc (parts7 n))) (some k) ()]], r, _, .normal, (three ..).symm, by simp, by rw [r1]; simp, r2, ?_⟩
    obtain ⟨P, z, hP⟩ : ∃ P z, parts7 n = P ++ [z] := ⟨(parts7 n).dropLast, (parts7 n).getLast (parts7_ne n), (List.dropLast_concat_getLast (parts7_ne n)).symm⟩
    have hz : z < 128 := parts7_lt n z (by rw [hP]; simp)
    rw [hP] at h hp10 ⊢
    have hl10 : P.length < 10 := by simp at hp10; omega
    have hsp : b ++ enc (P ++ [z]) = (b ++ enc P) ++ [UInt8.ofNat (z + 128)] := by simp [enc]
    have hB : (b ++ enc P).length = b.length + P.length := by simp [enc]
    rw [hsp]
    have hQ : Q (.sl (bA (b ++ enc P ++ [UInt8.ofNat z])) (some k) ()) (H ++ [.cells [.int .u64 0]]) := by simpa using h
    generalize b ++ enc P = B at hQ hB ⊢
    obtain ⟨N, hN⟩ : ∃ N, N = B.length := ⟨_, rfl⟩
    have e1 : (B ++ [UInt8.ofNat (z + 128)]).length = N + 1 := by rw [hN]; simp
    have e2 : ((N + 1 : Nat) : Int) > (b.length : Int) := by omega
    have e3 : IntKind.i64.wrap (((N + 1 : Nat) : Int) - 1) = (N : Int) := by rw [IntWalk.i64_in _ (by omega)]; omega
    have e4 : (0 : Int) ≤ (N : Int) := by omega
    have e5 : (N : Int) < ((N + 1 : Nat) : Int) := by omega
    have e6 : (bA (B ++ [UInt8.ofNat (z + 128)]))[N]? = some (.int .u8 ((z + 128 : Nat) : Int)) := by
      rw [hN, bA, List.map_append, List.getElem?_append_right (by simp)]
      simp only [List.length_map, Nat.sub_self, List.map_cons, List.getElem?_cons_zero, byteA]
      rw [show (UInt8.ofNat (z + 128)).toNat = z + 128 by simp; omega]
    have e7 : bitsI .and .u8 ((z + 128 : Nat) : Int) 127 = (z : Int) := by rw [and127b _ (by omega)]; omega
    have e8 : (bA (B ++ [UInt8.ofNat (z + 128)])).set N (.int .u8 (z : Int)) = bA (B ++ [UInt8.ofNat z]) := by
      rw [hN, bA, List.map_append, List.set_append_right _ _ (by simp)]
      simp only [List.length_map, Nat.sub_self, List.map_cons, List.map_nil, List.set_cons_zero, bA, List.map_append, byteA]
      rw [show (UInt8.ofNat z).toNat = z by simp; omega]
    have e9 : k ≤ N := by omega
    ((try simp only [go_sem, ↓reduceIte, reduceCtorEq, Nat.reduceLT, Nat.reduceEqDiff, Nat.reduceBEq, Nat.reduceAdd, Nat.reduceMul, Nat.reduceSub, Nat.reduceLeDiff, Int.reduceNeg, Int.reduceLT, Int.reduceLE, Int.reduceEq, Int.reduceAdd, Int.reduceToNat, s2, s5, e1, e2, e3, e4, e5, e6, e7, e8, e9]); repeat ((first | refine AW.seq ?_ | refine AW.regionX env_ok (fun t => t == 7 || t == 16 || t == 20 || t == 21) ?_ | refine AW.regionX envR_ok (fun t => t == 7 || t == 16 || t == 20 || t == 21) ?_ | refine AW.skip ?_ | refine AW.block ?_ | refine AW.exit ?_ | refine AW.ret ?_ | (refine AW.cond (b := true) ?_ ?_; simp only [ev, upd, ↓reduceIte, Nat.reduceEqDiff]; rw [if_pos rfl]) | (refine AW.cond (b := false) ?_ ?_; simp only [ev, upd, ↓reduceIte, Nat.reduceEqDiff]; rw [if_neg Bool.false_ne_true]) | fail) <;> try simp only [go_sem, ↓reduceIte, reduceCtorEq, Nat.reduceLT, Nat.reduceEqDiff, Nat.reduceBEq, Nat.reduceAdd, Nat.reduceMul, Nat.reduceSub, Nat.reduceLeDiff, Int.reduceNeg, Int.reduceLT, Int.reduceLE, Int.reduceEq, Int.reduceAdd, Int.reduceToNat, s2, s5, e1, e2, e3, e4, e5, e6, e7, e8, e9]))
    refine .inr ?_
    rw [show (H ++ [Ob.cells [V.int IntKind.u64 0], Ob.cells [V.undef ()]]).take (H.length + 1) = H ++ [Ob.cells [V.int IntKind.u64 0]] by rw [List.take_append, Nat.add_sub_cancel_left, List.take_of_length_le (by omega)]; rfl]
    exact hQ

/-- A number's bytes. -/
def putU (n : Nat) : List UInt8 := enc (parts7 n).dropLast ++ [UInt8.ofNat ((parts7 n).getLastD 0)]

theorem putU_def (n : Nat) : putU n = if n < 128 then [UInt8.ofNat n] else UInt8.ofNat (n % 128 + 128) :: putU (n / 128) := by
  unfold putU
  rw [parts7.eq_def n]
  split
  · rfl
  · have h := parts7_ne (n / 128)
    rw [List.dropLast_cons_of_ne_nil h]
    cases hc : parts7 (n / 128) with
    | nil => exact absurd hc h
    | cons x l => simp [enc]

theorem PutU_spec {b : List UInt8} {k n : Nat} {H : Heap} {Q : A → Heap → Prop} (hb : b.length < 140737488355000) (hk : k ≤ b.length) (hn : n < 18446744073709551616)
    (h : Q (.sl (bA (b ++ putU n)) (some k) ()) H) : AC Try.prog 15 [.sl (bA b) (some k) (), .int .u64 n] H Q := by
  refine AC.enter (E := env Try.prog 9 (fun t => if t == 5 then .take else .copy) (fun _ => false)) env_ok Try.func15 rfl rfl rfl (by simp only [List.length_cons, List.length_nil]; exact of_decide_eq_true rfl) ?_
  ((try simp only [go_sem, ↓reduceIte, reduceCtorEq, Nat.reduceLT, Nat.reduceEqDiff, Nat.reduceBEq, Nat.reduceAdd, Nat.reduceMul, Nat.reduceSub, Nat.reduceLeDiff, Int.reduceNeg, Int.reduceLT, Int.reduceLE, Int.reduceEq, Int.reduceAdd, Int.reduceToNat]); repeat ((first | refine AW.seq ?_ | refine AW.region env_ok ?_ | refine AW.region envR_ok ?_ | refine AW.skip ?_ | refine AW.block ?_ | refine AW.exit ?_ | refine AW.ret ?_ | (refine AW.cond (b := true) ?_ ?_; simp only [ev, upd, ↓reduceIte, Nat.reduceEqDiff]; rw [if_pos rfl]) | (refine AW.cond (b := false) ?_ ?_; simp only [ev, upd, ↓reduceIte, Nat.reduceEqDiff]; rw [if_neg Bool.false_ne_true]) | fail) <;> try simp only [go_sem, ↓reduceIte, reduceCtorEq, Nat.reduceLT, Nat.reduceEqDiff, Nat.reduceBEq, Nat.reduceAdd, Nat.reduceMul, Nat.reduceSub, Nat.reduceLeDiff, Int.reduceNeg, Int.reduceLT, Int.reduceLE, Int.reduceEq, Int.reduceAdd, Int.reduceToNat]))
  refine unsigned_spec ?_
  ((try simp only [go_sem, ↓reduceIte, reduceCtorEq, Nat.reduceLT, Nat.reduceEqDiff, Nat.reduceBEq, Nat.reduceAdd, Nat.reduceMul, Nat.reduceSub, Nat.reduceLeDiff, Int.reduceNeg, Int.reduceLT, Int.reduceLE, Int.reduceEq, Int.reduceAdd, Int.reduceToNat]); repeat ((first | refine AW.seq ?_ | refine AW.region env_ok ?_ | refine AW.region envR_ok ?_ | refine AW.skip ?_ | refine AW.block ?_ | refine AW.exit ?_ | refine AW.ret ?_ | (refine AW.cond (b := true) ?_ ?_; simp only [ev, upd, ↓reduceIte, Nat.reduceEqDiff]; rw [if_pos rfl]) | (refine AW.cond (b := false) ?_ ?_; simp only [ev, upd, ↓reduceIte, Nat.reduceEqDiff]; rw [if_neg Bool.false_ne_true]) | fail) <;> try simp only [go_sem, ↓reduceIte, reduceCtorEq, Nat.reduceLT, Nat.reduceEqDiff, Nat.reduceBEq, Nat.reduceAdd, Nat.reduceMul, Nat.reduceSub, Nat.reduceLeDiff, Int.reduceNeg, Int.reduceLT, Int.reduceLE, Int.reduceEq, Int.reduceAdd, Int.reduceToNat]))
  refine put_spec hb hk hn ?_
  ((try simp only [go_sem, ↓reduceIte, reduceCtorEq, Nat.reduceLT, Nat.reduceEqDiff, Nat.reduceBEq, Nat.reduceAdd, Nat.reduceMul, Nat.reduceSub, Nat.reduceLeDiff, Int.reduceNeg, Int.reduceLT, Int.reduceLE, Int.reduceEq, Int.reduceAdd, Int.reduceToNat]); repeat ((first | refine AW.seq ?_ | refine AW.region env_ok ?_ | refine AW.region envR_ok ?_ | refine AW.skip ?_ | refine AW.block ?_ | refine AW.exit ?_ | refine AW.ret ?_ | (refine AW.cond (b := true) ?_ ?_; simp only [ev, upd, ↓reduceIte, Nat.reduceEqDiff]; rw [if_pos rfl]) | (refine AW.cond (b := false) ?_ ?_; simp only [ev, upd, ↓reduceIte, Nat.reduceEqDiff]; rw [if_neg Bool.false_ne_true]) | fail) <;> try simp only [go_sem, ↓reduceIte, reduceCtorEq, Nat.reduceLT, Nat.reduceEqDiff, Nat.reduceBEq, Nat.reduceAdd, Nat.reduceMul, Nat.reduceSub, Nat.reduceLeDiff, Int.reduceNeg, Int.reduceLT, Int.reduceLE, Int.reduceEq, Int.reduceAdd, Int.reduceToNat]))
  refine .inr ?_
  simpa [putU] using h
end Go.Ab
end

section
/- Programs that move the address, in plain Lean. -/
namespace Go.Ab
open V Go.Proofs
set_option maxHeartbeats 4000000
set_option linter.unusedSimpArgs false
set_option linter.unusedVariables false

theorem val7_parts (n : Nat) : val7 (parts7 n) = n := by
  induction n using Nat.strongRecOn with
  | _ n ih =>
    unfold parts7
    split
    · simp [val7]
    · simp only [val7]
      rw [ih (n / 128) (by omega)]
      omega
theorem putU_len (n : Nat) : (putU n).length = (parts7 n).length := by
  induction n using Nat.strongRecOn with
  | _ n ih =>
    rw [putU_def]; unfold parts7
    split
    · rfl
    · simp only [List.length_cons]; rw [ih (n / 128) (by omega)]
theorem parts_top {k : Nat} : ∀ {n c : Nat}, n < c * 128 ^ k → (parts7 n).getD k 0 < c ∨ c = 0 := by
  induction k with
  | zero =>
    intro n c h
    left
    unfold parts7
    split
    · simpa using h
    · simp at h ⊢; omega
  | succ k ih =>
    intro n c h
    by_cases hc : c = 0
    · exact .inr hc
    unfold parts7
    split
    · left; simp; omega
    · rw [List.getD_cons_succ]
      refine ih ?_
      rw [Nat.div_lt_iff_lt_mul (by omega), Nat.mul_assoc, ← Nat.pow_succ]
      exact h

section
variable {s : CS} {rest : List UInt8}

/-- A byte is read. -/
theorem take_one {x : UInt8} (h0 : s.err = 0) (hb : s.b.drop s.pos = x :: rest) : s.take 1 = ([x], { s with pos := s.pos + 1 }) := by
  have hl : s.pos < s.b.length := by
    rcases Nat.lt_or_ge s.pos s.b.length with h | h
    · exact h
    · rw [List.drop_of_length_le h] at hb; cases hb
  unfold CS.take
  rw [if_pos h0, if_pos (by omega)]
  congr 1
  rw [List.drop_take, hb]
  simp
theorem drop_next {x : UInt8} (hb : s.b.drop s.pos = x :: rest) : s.b.drop (s.pos + 1) = rest := by
  rw [← List.drop_drop, hb]; rfl

theorem seven_putU : ∀ (n : Nat) (k : Nat) {s : CS}, n < 128 ^ (k + 1) → s.err = 0 → s.b.drop s.pos = putU n ++ rest →
    seven (k + 1) s = (some (parts7 n), { s with pos := s.pos + (putU n).length }) := by
  intro n
  induction n using Nat.strongRecOn with
  | _ n ih =>
    intro k s hn h0 hb
    rw [putU_def n] at hb ⊢
    unfold parts7
    by_cases h : n < 128
    · rw [if_pos h] at hb ⊢
      rw [dif_pos h]
      have ht := take_one h0 hb
      unfold seven
      simp only [ht]
      have hle : le [UInt8.ofNat n] = n := by
        simp [le, UInt8.toNat_ofNat']
        omega
      rw [if_pos h0, hle, if_pos h]
      rfl
    · rw [if_neg h] at hb ⊢
      rw [dif_neg h]
      have ht := take_one h0 hb
      have hle : le [UInt8.ofNat (n % 128 + 128)] = n % 128 + 128 := by
        simp [le, UInt8.toNat_ofNat']
        omega
      have hk : ∃ j, k = j + 1 := by
        cases k with
        | zero => simp at hn; omega
        | succ j => exact ⟨j, rfl⟩
      obtain ⟨j, rfl⟩ := hk
      have hdiv : n / 128 < 128 ^ (j + 1) := by rw [Nat.div_lt_iff_lt_mul (by omega)]; rw [Nat.pow_succ] at hn; exact hn
      have := ih (n / 128) (by omega) j (s := { s with pos := s.pos + 1 }) hdiv h0 (drop_next (rest := putU (n / 128) ++ rest) hb)
      unfold seven
      simp only [ht]
      rw [if_pos h0, hle, if_neg (by omega), this]
      have h1 : (n % 128 + 128) % 128 = n % 128 := by omega
      have h2 : s.pos + 1 + (putU (n / 128)).length = s.pos + ((putU (n / 128)).length + 1) := by omega
      simp only [List.length_cons, h1, h2]

theorem uleb_putU {n : Nat} (hn : n < 18446744073709551616) (h0 : s.err = 0) (hb : s.b.drop s.pos = putU n ++ rest) : s.uleb = (n, { s with pos := s.pos + (putU n).length }) := by
  have h := seven_putU (rest := rest) n 9 (s := s) (by omega) h0 hb
  unfold CS.uleb
  rw [h]
  simp only
  rw [if_neg, val7_parts]
  rintro ⟨_, h2⟩
  have := parts_top (k := 9) (n := n) (c := 2) (by omega)
  omega
end

/-- The program of moves. -/
def moveProg : List Nat → List UInt8
  | [] => seqEnd
  | n :: l => 2 :: (putU n ++ (1 :: moveProg l))
def moved (hd : HD) (r : RW) (n : Nat) : RW := { r with addr := IntKind.u64.wrap (r.addr + IntKind.u64.wrap ((n : Int) * IntKind.u64.wrap hd.min)) }
def moveRows (hd : HD) (r : RW) : List Nat → List RW
  | [] => [{ r with stop := true }]
  | n :: l => moved hd r n :: moveRows hd (moved hd r n) l

section
variable {hd : HD}

theorem step_code {m : MS} {x : UInt8} {rest : List UInt8} (h0 : m.s.err = 0) (hb : m.s.b.drop m.s.pos = x :: rest) (hc : (x.toNat : Int) < hd.codes) : m.step hd = ({ m with s := { m.s with pos := m.s.pos + 1 } } : MS).standard hd x.toNat := by
  unfold MS.step
  simp only
  rw [take_one h0 hb]
  have : le [x] = x.toNat := by simp [le]
  rw [this, if_neg]
  rintro ⟨h1, _⟩
  omega

def clean (r : RW) : Prop := r.disc = 0 ∧ r.blk = false ∧ r.pro = false ∧ r.epi = false
theorem clean_eq {r : RW} (h : clean r) : ({ r with disc := 0, blk := false, pro := false, epi := false } : RW) = r := by
  obtain ⟨h1, h2, h3, h4⟩ := h
  cases r; simp_all

theorem left_pos {s : CS} {x : UInt8} {rest : List UInt8} (h0 : s.err = 0) (hb : s.b.drop s.pos = x :: rest) : s.left > 0 := by
  unfold CS.left
  rw [if_pos h0]
  rcases Nat.lt_or_ge s.pos s.b.length with h | h
  · omega
  · rw [List.drop_of_length_le h] at hb; cases hb

theorem move_runs (hcodes : hd.codes = 13) : ∀ (l : List Nat) {m : MS} {N : Nat}, (∀ n ∈ l, n < 18446744073709551616) → m.s.Ok → m.s.err = 0 → m.s.left ≤ N → m.s.b.drop m.s.pos = moveProg l → clean m.row → m.out.length + l.length + 1 ≤ 2000 →
    (runs hd N m).s.err = 0 ∧ (runs hd N m).out = m.out ++ moveRows hd m.row l := by
  intro l
  induction l with
  | nil =>
    intro m N _ hs h0 hN hb hcl hlen
    simp only [moveProg, seqEnd] at hb
    have e1 := step_code (hd := hd) h0 hb (by rw [hcodes]; decide)
    have hl := left_pos h0 hb
    have hst := step_less (hd := hd) hs hl
    have hb1 := drop_next hb
    rw [runs_step hs hl hN]
    -- the long operation
    have sm : Sm (m.s.b.take m.s.pos) [] m.out (MS.mk ⟨seqEnd, 0, 0⟩ m.row []) m := by
      refine ⟨⟨?_, ?_, ?_⟩, rfl, by simp⟩
      · show m.s.b = m.s.b.take m.s.pos ++ [0, 1, 1] ++ []
        rw [List.append_nil, ← hb, List.take_append_drop]
      · simp; exact (Nat.min_eq_left hs.1).symm
      · exact h0
    have okm : (MS.mk ⟨seqEnd, 0, 0⟩ m.row []).s.Ok := by unfold CS.Ok; simp [seqEnd]
    have lm : (MS.mk ⟨seqEnd, 0, 0⟩ m.row []).s.left = 3 := rfl
    have res := sm.step (hd := hd) okm (by omega) (by omega) (.inl rfl)
    rw [end_step (by omega)] at res
    rcases res with ⟨q1, q2⟩ | ⟨q1, q2⟩
    · have hz : (m.step hd).s.left = 0 := by rw [q1.s.left (by unfold CS.Ok; simp [seqEnd]) rfl]; rfl
      rw [runs_none hz]
      exact ⟨q1.s.err, q1.out⟩
    · exfalso
      rcases q2 with q2 | q2
      · exact absurd rfl q2
      · simp only [List.length_cons, List.length_nil] at q2 hlen; omega
  | cons n l ih =>
    intro m N hn hs h0 hN hb hcl hlen
    simp only [moveProg] at hb
    have hn0 := hn n (by simp)
    -- the move
    have e1 := step_code (hd := hd) h0 hb (by rw [hcodes]; decide)
    have hl := left_pos h0 hb
    have hst := step_less (hd := hd) hs hl
    have hb1 := drop_next hb
    rw [runs_step hs hl hN]
    have hu := uleb_putU (s := { m.s with pos := m.s.pos + 1 }) (rest := 1 :: moveProg l) hn0 h0 hb1
    have e2 : m.step hd = { m with s := { m.s with pos := m.s.pos + 1 + (putU n).length }, row := moved hd m.row n } := by
      rw [e1]
      show ({ m with s := (CS.uleb { m.s with pos := m.s.pos + 1 }).2 } : MS).by hd (CS.uleb { m.s with pos := m.s.pos + 1 }).1 = _
      rw [hu]
      rfl
    rw [e2] at hst ⊢
    generalize hm2 : ({ m with s := { m.s with pos := m.s.pos + 1 + (putU n).length }, row := moved hd m.row n } : MS) = m2 at hst ⊢
    have hs2 := hst.2.1
    have h02 : m2.s.err = 0 := by rw [← hm2]; exact h0
    have hb2 : m2.s.b.drop m2.s.pos = 1 :: moveProg l := by
      rw [← hm2]
      show m.s.b.drop (m.s.pos + 1 + (putU n).length) = _
      rw [← List.drop_drop, hb1, List.drop_left]
    have hr2 : m2.row = moved hd m.row n := by rw [← hm2]
    have ho2 : m2.out = m.out := by rw [← hm2]
    have hcl2 : clean m2.row := by rw [hr2]; exact hcl
    -- the row is told
    have e3 := step_code (hd := hd) h02 hb2 (by rw [hcodes]; decide)
    have hl2 := left_pos h02 hb2
    have hst2 := step_less (hd := hd) hs2 hl2
    rw [runs_step hs2 hl2 (by omega)]
    have e4 : m2.step hd = { m2 with s := { m2.s with pos := m2.s.pos + 1 }, out := m2.out ++ [m2.row] } := by
      rw [e3]
      show ({ m2 with s := { m2.s with pos := m2.s.pos + 1 } } : MS).tell = _
      unfold MS.tell
      rw [if_pos h02, if_neg (by simp only [ho2]; simp only [List.length_cons] at hlen; omega)]
      simp only [clean_eq hcl2]
    rw [e4] at hst2 ⊢
    have := ih (m := { m2 with s := { m2.s with pos := m2.s.pos + 1 }, out := m2.out ++ [m2.row] }) (N := N) (fun x hx => hn x (by simp [hx])) hst2.2.1 h02 (by omega) (drop_next hb2) hcl2 (by
      simp only [ho2, List.length_append, List.length_cons, List.length_nil] at hlen ⊢; omega)
    refine ⟨this.1, ?_⟩
    rw [this.2]
    simp only [ho2, hr2, moveRows, List.append_assoc, List.cons_append, List.nil_append]
end
end Go.Ab
end

section
/- A sequence that begins at an address, and moves it, in plain Lean. -/
namespace Go.Ab
open V Go.Proofs
set_option maxHeartbeats 4000000
set_option linter.unusedSimpArgs false
set_option linter.unusedVariables false

/-- k bytes of a number, the lowest first. -/
def leB : Nat → Nat → List UInt8
  | 0, _ => []
  | k + 1, a => UInt8.ofNat (a % 256) :: leB k (a / 256)
theorem leB_length : ∀ (k a : Nat), (leB k a).length = k := by
  intro k
  induction k with
  | zero => intro a; rfl
  | succ k ih => intro a; simp [leB, ih]
theorem le_leB : ∀ (k a : Nat), a < 256 ^ k → le (leB k a) = a := by
  intro k
  induction k with
  | zero => intro a h; simp at h; simp [leB, le, h]
  | succ k ih =>
    intro a h
    have hd : a / 256 < 256 ^ k := by rw [Nat.div_lt_iff_lt_mul (by omega)]; rw [Nat.pow_succ] at h; exact h
    have hb : (UInt8.ofNat (a % 256)).toNat = a % 256 := by simp
    simp only [leB, le, ih _ hd, hb]
    omega
/-- What sets the address. -/
def beginB (a : Nat) : List UInt8 := [0, 9, 2] ++ leB 8 a

section
variable {hd : HD}

theorem take_some {s : CS} {l rest : List UInt8} (h0 : s.err = 0) (hb : s.b.drop s.pos = l ++ rest) : s.take l.length = (l, { s with pos := s.pos + l.length }) := by
  have hl : (s.b.drop s.pos).length = l.length + rest.length := by rw [hb]; simp
  rw [List.length_drop] at hl
  unfold CS.take
  rw [if_pos h0, if_pos (by omega)]
  congr 1
  rw [List.drop_take, hb, Nat.add_sub_cancel_left, List.take_left]

theorem begin_step {m : MS} {a : Nat} {rest : List UInt8} (ha : a < 18446744073709551616) (h0 : m.s.err = 0) (hc : hd.codes > 0) (hb : m.s.b.drop m.s.pos = beginB a ++ rest) :
    m.step hd = { m with s := { m.s with pos := m.s.pos + 11 }, row := { m.row with addr := (a : Int) } } := by
  have hb0 : m.s.b.drop m.s.pos = 0 :: ([9, 2] ++ leB 8 a ++ rest) := by rw [hb]; simp [beginB]
  rw [step_code h0 hb0 (by show ((0 : UInt8).toNat : Int) < _; simpa using hc)]
  show ({ m with s := { m.s with pos := m.s.pos + 1 } } : MS).long hd = _
  have hb1 : m.s.b.drop (m.s.pos + 1) = putU 9 ++ (2 :: leB 8 a ++ rest) := by rw [drop_next hb0, putU_def]; rfl
  have hu := uleb_putU (s := { m.s with pos := m.s.pos + 1 }) (n := 9) (by omega) h0 hb1
  have hpl : (putU 9).length = 1 := by rw [putU_def]; rfl
  rw [hpl] at hu
  have hb2 : m.s.b.drop (m.s.pos + 1 + 1) = (2 :: leB 8 a) ++ rest := by
    rw [← List.drop_drop, hb1, putU_def]; rfl
  have ht := take_some (s := { m.s with pos := m.s.pos + 1 + 1 }) (l := 2 :: leB 8 a) h0 hb2
  have hl9 : (2 :: leB 8 a).length = 9 := by simp [leB_length]
  rw [hl9] at ht
  have h8 := take_some (s := CS.mk (2 :: leB 8 a) 1 0) (l := leB 8 a) (rest := []) rfl (by simp)
  rw [leB_length] at h8
  unfold MS.long
  simp only [hu, ht]
  rw [if_neg (by simpa using h0)]
  have hg : ((2 :: leB 8 a).getD 0 0).toNat = 2 := rfl
  rw [hg, if_neg (by omega), if_neg (by omega), if_pos rfl, h8, le_leB 8 a (by omega)]

theorem moveRows_len : ∀ (l : List Nat) (r : RW), (moveRows hd r l).length = l.length + 1 := by
  intro l
  induction l with
  | nil => intro r; rfl
  | cons n l ih => intro r; simp [moveRows, ih]
theorem lastBad_moves : ∀ (l : List Nat) (r : RW), lastBad (moveRows hd r l) = false := by
  intro l
  induction l with
  | nil => intro r; rfl
  | cons n l ih =>
    intro r
    have := ih (moved hd r n)
    have hne : moveRows hd (moved hd r n) l ≠ [] := fun e => by have := moveRows_len (hd := hd) l (moved hd r n); rw [e] at this; simp at this
    simp only [moveRows]
    unfold lastBad at this ⊢
    cases hm : moveRows hd (moved hd r n) l with
    | nil => exact absurd hm hne
    | cons x t => rw [hm] at this; simpa using this

/-- What a sequence tells. -/
theorem moves_run {a : Nat} {l : List Nat} (hcodes : hd.codes = 13) (ha : a < 18446744073709551616) (hn : ∀ n ∈ l, n < 18446744073709551616) (hl : l.length ≤ 100)
    (hlen : (beginB a ++ moveProg l).length < 4611686018427387904) (hR : hd.Right) : runR hd (beginB a ++ moveProg l) = (moveRows hd { RW.start hd with addr := (a : Int) } l, 0) := by
  have hok := init_ok (hd := hd) hlen
  have h0 : (MS.init hd (beginB a ++ moveProg l)).s.err = 0 := rfl
  have hb : (MS.init hd (beginB a ++ moveProg l)).s.b.drop (MS.init hd (beginB a ++ moveProg l)).s.pos = beginB a ++ moveProg l := rfl
  have hleft : (MS.init hd (beginB a ++ moveProg l)).s.left > 0 := left_pos (x := 0) (rest := [9, 2] ++ leB 8 a ++ moveProg l) h0 (by rw [hb]; simp [beginB])
  have hst := step_less (hd := hd) hok hleft
  have hle : (MS.init hd (beginB a ++ moveProg l)).s.left ≤ (beginB a ++ moveProg l).length := by unfold CS.left MS.init; simp
  have e1 := runs_step (hd := hd) hok hleft hle
  have e2 := begin_step (hd := hd) (m := MS.init hd (beginB a ++ moveProg l)) ha h0 (by omega) hb
  rw [e2] at e1 hst
  have := move_runs hcodes l (m := { MS.init hd (beginB a ++ moveProg l) with s := { (MS.init hd (beginB a ++ moveProg l)).s with pos := (MS.init hd (beginB a ++ moveProg l)).s.pos + 11 }, row := { (MS.init hd (beginB a ++ moveProg l)).row with addr := (a : Int) } })
    (N := (beginB a ++ moveProg l).length) hn hst.2.1 h0 (Nat.le_trans (Nat.le_of_lt hst.1) hle) (by
      show (beginB a ++ moveProg l).drop (0 + 11) = _
      have : (beginB a).length = 11 := by simp [beginB, leB_length]
      rw [List.drop_append, List.drop_of_length_le (by omega), this]; rfl) ⟨rfl, rfl, rfl, rfl⟩ (by
      show ([] : List RW).length + l.length + 1 ≤ 2000
      simp; omega)
  rw [← e1] at this
  unfold runR
  rw [if_pos hR, if_neg (by rw [this.1]; simp), this.2]
  have hnil : (MS.init hd (beginB a ++ moveProg l)).out = [] := rfl
  simp only [hnil, List.nil_append]
  have hrow : (MS.init hd (beginB a ++ moveProg l)).row = RW.start hd := rfl
  rw [hrow, lastBad_moves, if_neg (by simp)]

/-- A row so much further. -/
def further (d : Int) (r : RW) : RW := { r with addr := IntKind.u64.wrap (r.addr + d) }
theorem further_rows {d : Int} : ∀ (l : List Nat) (r : RW), moveRows hd (further d r) l = (moveRows hd r l).map (further d) := by
  intro l
  induction l with
  | nil => intro r; rfl
  | cons n l ih =>
    intro r
    have e : moved hd (further d r) n = further d (moved hd r n) := by
      unfold moved further
      simp only [RW.mk.injEq, and_true, true_and]
      generalize IntKind.u64.wrap ((n : Int) * IntKind.u64.wrap hd.min) = k
      simp only [IntKind.wrap_u64]
      omega
    simp only [moveRows, List.map_cons, e, ih]
theorem moves_further {a b : Nat} (hb : b < 18446744073709551616) (l : List Nat) :
    (moveRows hd { RW.start hd with addr := (a : Int) } l).map (further (IntKind.u64.wrap ((b : Int) - a))) = moveRows hd { RW.start hd with addr := (b : Int) } l := by
  rw [← further_rows]
  congr 1
  unfold further
  simp only [RW.mk.injEq, and_true, true_and]
  simp only [IntKind.wrap_u64]
  omega
end
end Go.Ab
end

section
/- Package linerun: what moves the registers. -/
namespace Go.Ab
open V Go.Proofs
set_option maxHeartbeats 4000000
set_option maxRecDepth 10000
set_option linter.unusedSimpArgs false
set_option linter.unusedVariables false

/-- The registers in the heap. -/
def MS.ob (m : MS) (hd : HD) (c k : Nat) : Ob Unit := .cells (mcells hd c m.row (.sl (rA m.out) (some k) ()))
attribute [go_sem] MS.ob

section
variable {hd : HD} {G : Heap} {Q : A → Heap → Prop} {m : MS} {pc pm k : Nat}

theorem by_spec {n : Int} (hm : G[pm]? = some (m.ob hd pc k)) (h : Q (.tup []) (G.set pm ((m.by hd n).ob hd pc k))) : AC Try.prog 33 [.ptr (some (pm, 0)), .int .u64 n] G Q := by
  refine AC.enter (E := env Try.prog 21 (fun _ => .copy) (fun _ => false)) env_ok Try.func33 rfl rfl rfl (by simp only [List.length_cons, List.length_nil]; exact of_decide_eq_true rfl) ?_
  ((try simp only [go_sem, ↓reduceIte, reduceCtorEq, Nat.reduceLT, Nat.reduceEqDiff, Nat.reduceBEq, Nat.reduceAdd, Nat.reduceMul, Nat.reduceSub, Nat.reduceLeDiff, Int.reduceNeg, Int.reduceLT, Int.reduceLE, Int.reduceEq, Int.reduceAdd, Int.reduceToNat]); repeat ((first | refine AW.seq ?_ | refine AW.region env_ok ?_ | refine AW.region envR_ok ?_ | refine AW.skip ?_ | refine AW.block ?_ | refine AW.exit ?_ | refine AW.ret ?_ | (refine AW.cond (b := true) ?_ ?_; simp only [ev, upd, ↓reduceIte, Nat.reduceEqDiff]; rw [if_pos rfl]) | (refine AW.cond (b := false) ?_ ?_; simp only [ev, upd, ↓reduceIte, Nat.reduceEqDiff]; rw [if_neg Bool.false_ne_true]) | fail) <;> try simp only [go_sem, ↓reduceIte, reduceCtorEq, Nat.reduceLT, Nat.reduceEqDiff, Nat.reduceBEq, Nat.reduceAdd, Nat.reduceMul, Nat.reduceSub, Nat.reduceLeDiff, Int.reduceNeg, Int.reduceLT, Int.reduceLE, Int.reduceEq, Int.reduceAdd, Int.reduceToNat]))
  refine AW.chain env_ok [0, 1, 3, 7, 15, 0, 0, 64, 192, 448, 960, 1984, 4064, 8191, 16383, 32767, 65535, 131071] [0, 1, 2, 3, 4, 5, 6, 7, 8, 9, 10, 11, 12, 13, 14, 15, 16] [(17, [], [])] mixed (by decide) ?_
  ((try simp only [go_sem, ↓reduceIte, reduceCtorEq, Nat.reduceLT, Nat.reduceEqDiff, Nat.reduceBEq, Nat.reduceAdd, Nat.reduceMul, Nat.reduceSub, Nat.reduceLeDiff, Int.reduceNeg, Int.reduceLT, Int.reduceLE, Int.reduceEq, Int.reduceAdd, Int.reduceToNat, hm]); repeat ((first | refine AW.seq ?_ | refine AW.region env_ok ?_ | refine AW.region envR_ok ?_ | refine AW.skip ?_ | refine AW.block ?_ | refine AW.exit ?_ | refine AW.ret ?_ | (refine AW.cond (b := true) ?_ ?_; simp only [ev, upd, ↓reduceIte, Nat.reduceEqDiff]; rw [if_pos rfl]) | (refine AW.cond (b := false) ?_ ?_; simp only [ev, upd, ↓reduceIte, Nat.reduceEqDiff]; rw [if_neg Bool.false_ne_true]) | fail) <;> try simp only [go_sem, ↓reduceIte, reduceCtorEq, Nat.reduceLT, Nat.reduceEqDiff, Nat.reduceBEq, Nat.reduceAdd, Nat.reduceMul, Nat.reduceSub, Nat.reduceLeDiff, Int.reduceNeg, Int.reduceLT, Int.reduceLE, Int.reduceEq, Int.reduceAdd, Int.reduceToNat, hm]))
  exact .inl h

theorem small_spec {s : CS} {n : Nat} (hc : G[pc]? = some (.cells s.cur)) (hm : G[pm]? = some (m.ob hd pc k)) (h : Q (.int .i64 (if n > 2147483647 then 0 else IntKind.i64.wrap n)) (if n > 2147483647 then G.set pc (.cells (s.fail 48).cur) else G)) : AC Try.prog 39 [.ptr (some (pm, 0)), .int .u64 n] G Q := by
  refine AC.enter (E := env Try.prog 14 (fun _ => .copy) (fun _ => false)) env_ok Try.func39 rfl rfl rfl (by simp only [List.length_cons, List.length_nil]; exact of_decide_eq_true rfl) ?_
  by_cases c : n > 2147483647
  · have c' : (n : Int) > 2147483647 := by omega
    rw [if_pos c, if_pos c] at h
    ((try simp only [go_sem, ↓reduceIte, reduceCtorEq, Nat.reduceLT, Nat.reduceEqDiff, Nat.reduceBEq, Nat.reduceAdd, Nat.reduceMul, Nat.reduceSub, Nat.reduceLeDiff, Int.reduceNeg, Int.reduceLT, Int.reduceLE, Int.reduceEq, Int.reduceAdd, Int.reduceToNat, hm, c']); repeat ((first | refine AW.seq ?_ | refine AW.region env_ok ?_ | refine AW.region envR_ok ?_ | refine AW.skip ?_ | refine AW.block ?_ | refine AW.exit ?_ | refine AW.ret ?_ | (refine AW.cond (b := true) ?_ ?_; simp only [ev, upd, ↓reduceIte, Nat.reduceEqDiff]; rw [if_pos rfl]) | (refine AW.cond (b := false) ?_ ?_; simp only [ev, upd, ↓reduceIte, Nat.reduceEqDiff]; rw [if_neg Bool.false_ne_true]) | fail) <;> try simp only [go_sem, ↓reduceIte, reduceCtorEq, Nat.reduceLT, Nat.reduceEqDiff, Nat.reduceBEq, Nat.reduceAdd, Nat.reduceMul, Nat.reduceSub, Nat.reduceLeDiff, Int.reduceNeg, Int.reduceLT, Int.reduceLE, Int.reduceEq, Int.reduceAdd, Int.reduceToNat, hm, c']))
    refine Fail_spec hc ?_
    ((try simp only [go_sem, ↓reduceIte, reduceCtorEq, Nat.reduceLT, Nat.reduceEqDiff, Nat.reduceBEq, Nat.reduceAdd, Nat.reduceMul, Nat.reduceSub, Nat.reduceLeDiff, Int.reduceNeg, Int.reduceLT, Int.reduceLE, Int.reduceEq, Int.reduceAdd, Int.reduceToNat]); repeat ((first | refine AW.seq ?_ | refine AW.region env_ok ?_ | refine AW.region envR_ok ?_ | refine AW.skip ?_ | refine AW.block ?_ | refine AW.exit ?_ | refine AW.ret ?_ | (refine AW.cond (b := true) ?_ ?_; simp only [ev, upd, ↓reduceIte, Nat.reduceEqDiff]; rw [if_pos rfl]) | (refine AW.cond (b := false) ?_ ?_; simp only [ev, upd, ↓reduceIte, Nat.reduceEqDiff]; rw [if_neg Bool.false_ne_true]) | fail) <;> try simp only [go_sem, ↓reduceIte, reduceCtorEq, Nat.reduceLT, Nat.reduceEqDiff, Nat.reduceBEq, Nat.reduceAdd, Nat.reduceMul, Nat.reduceSub, Nat.reduceLeDiff, Int.reduceNeg, Int.reduceLT, Int.reduceLE, Int.reduceEq, Int.reduceAdd, Int.reduceToNat]))
    exact .inl h
  · have c' : ¬ (n : Int) > 2147483647 := by omega
    rw [if_neg c, if_neg c] at h
    ((try simp only [go_sem, ↓reduceIte, reduceCtorEq, Nat.reduceLT, Nat.reduceEqDiff, Nat.reduceBEq, Nat.reduceAdd, Nat.reduceMul, Nat.reduceSub, Nat.reduceLeDiff, Int.reduceNeg, Int.reduceLT, Int.reduceLE, Int.reduceEq, Int.reduceAdd, Int.reduceToNat, hm, c']); repeat ((first | refine AW.seq ?_ | refine AW.region env_ok ?_ | refine AW.region envR_ok ?_ | refine AW.skip ?_ | refine AW.block ?_ | refine AW.exit ?_ | refine AW.ret ?_ | (refine AW.cond (b := true) ?_ ?_; simp only [ev, upd, ↓reduceIte, Nat.reduceEqDiff]; rw [if_pos rfl]) | (refine AW.cond (b := false) ?_ ?_; simp only [ev, upd, ↓reduceIte, Nat.reduceEqDiff]; rw [if_neg Bool.false_ne_true]) | fail) <;> try simp only [go_sem, ↓reduceIte, reduceCtorEq, Nat.reduceLT, Nat.reduceEqDiff, Nat.reduceBEq, Nat.reduceAdd, Nat.reduceMul, Nat.reduceSub, Nat.reduceLeDiff, Int.reduceNeg, Int.reduceLT, Int.reduceLE, Int.reduceEq, Int.reduceAdd, Int.reduceToNat, hm, c']))
    exact .inl h

theorem line_spec {n : Int} (hne : pc ≠ pm) (hc : G[pc]? = some (.cells m.s.cur)) (hm : G[pm]? = some (m.ob hd pc k)) (h : Q (.tup []) ((G.set pc (.cells (m.line n).s.cur)).set pm ((m.line n).ob hd pc k))) : AC Try.prog 34 [.ptr (some (pm, 0)), .int .i64 n] G Q := by
  have hno : m.line n = m.fail 48 → Q (.tup []) (G.set pc (.cells (m.s.fail 48).cur)) := by
    intro e
    rw [e] at h
    have : (G.set pc (.cells (m.fail 48).s.cur))[pm]? = some ((m.fail 48).ob hd pc k) := by rw [List.getElem?_set_ne hne]; exact hm
    rwa [set_same this] at h
  refine AC.enter (E := env Try.prog 45 (fun _ => .copy) (fun _ => false)) env_ok Try.func34 rfl rfl rfl (by simp only [List.length_cons, List.length_nil]; exact of_decide_eq_true rfl) ?_
  by_cases c1 : n > 2147483647
  case pos => ((try simp only [go_sem, ↓reduceIte, reduceCtorEq, Nat.reduceLT, Nat.reduceEqDiff, Nat.reduceBEq, Nat.reduceAdd, Nat.reduceMul, Nat.reduceSub, Nat.reduceLeDiff, Int.reduceNeg, Int.reduceLT, Int.reduceLE, Int.reduceEq, Int.reduceAdd, Int.reduceToNat, hm, c1]); repeat ((first | refine AW.seq ?_ | refine AW.region env_ok ?_ | refine AW.region envR_ok ?_ | refine AW.skip ?_ | refine AW.block ?_ | refine AW.exit ?_ | refine AW.ret ?_ | (refine AW.cond (b := true) ?_ ?_; simp only [ev, upd, ↓reduceIte, Nat.reduceEqDiff]; rw [if_pos rfl]) | (refine AW.cond (b := false) ?_ ?_; simp only [ev, upd, ↓reduceIte, Nat.reduceEqDiff]; rw [if_neg Bool.false_ne_true]) | fail) <;> try simp only [go_sem, ↓reduceIte, reduceCtorEq, Nat.reduceLT, Nat.reduceEqDiff, Nat.reduceBEq, Nat.reduceAdd, Nat.reduceMul, Nat.reduceSub, Nat.reduceLeDiff, Int.reduceNeg, Int.reduceLT, Int.reduceLE, Int.reduceEq, Int.reduceAdd, Int.reduceToNat, hm, c1])); refine Fail_spec hc ?_; ((try simp only [go_sem, ↓reduceIte, reduceCtorEq, Nat.reduceLT, Nat.reduceEqDiff, Nat.reduceBEq, Nat.reduceAdd, Nat.reduceMul, Nat.reduceSub, Nat.reduceLeDiff, Int.reduceNeg, Int.reduceLT, Int.reduceLE, Int.reduceEq, Int.reduceAdd, Int.reduceToNat]); repeat ((first | refine AW.seq ?_ | refine AW.region env_ok ?_ | refine AW.region envR_ok ?_ | refine AW.skip ?_ | refine AW.block ?_ | refine AW.exit ?_ | refine AW.ret ?_ | (refine AW.cond (b := true) ?_ ?_; simp only [ev, upd, ↓reduceIte, Nat.reduceEqDiff]; rw [if_pos rfl]) | (refine AW.cond (b := false) ?_ ?_; simp only [ev, upd, ↓reduceIte, Nat.reduceEqDiff]; rw [if_neg Bool.false_ne_true]) | fail) <;> try simp only [go_sem, ↓reduceIte, reduceCtorEq, Nat.reduceLT, Nat.reduceEqDiff, Nat.reduceBEq, Nat.reduceAdd, Nat.reduceMul, Nat.reduceSub, Nat.reduceLeDiff, Int.reduceNeg, Int.reduceLT, Int.reduceLE, Int.reduceEq, Int.reduceAdd, Int.reduceToNat])); exact .inl (hno (if_pos (.inl c1)))
  by_cases c2 : n < -2147483647
  case pos => ((try simp only [go_sem, ↓reduceIte, reduceCtorEq, Nat.reduceLT, Nat.reduceEqDiff, Nat.reduceBEq, Nat.reduceAdd, Nat.reduceMul, Nat.reduceSub, Nat.reduceLeDiff, Int.reduceNeg, Int.reduceLT, Int.reduceLE, Int.reduceEq, Int.reduceAdd, Int.reduceToNat, hm, c1, c2]); repeat ((first | refine AW.seq ?_ | refine AW.region env_ok ?_ | refine AW.region envR_ok ?_ | refine AW.skip ?_ | refine AW.block ?_ | refine AW.exit ?_ | refine AW.ret ?_ | (refine AW.cond (b := true) ?_ ?_; simp only [ev, upd, ↓reduceIte, Nat.reduceEqDiff]; rw [if_pos rfl]) | (refine AW.cond (b := false) ?_ ?_; simp only [ev, upd, ↓reduceIte, Nat.reduceEqDiff]; rw [if_neg Bool.false_ne_true]) | fail) <;> try simp only [go_sem, ↓reduceIte, reduceCtorEq, Nat.reduceLT, Nat.reduceEqDiff, Nat.reduceBEq, Nat.reduceAdd, Nat.reduceMul, Nat.reduceSub, Nat.reduceLeDiff, Int.reduceNeg, Int.reduceLT, Int.reduceLE, Int.reduceEq, Int.reduceAdd, Int.reduceToNat, hm, c1, c2])); refine Fail_spec hc ?_; ((try simp only [go_sem, ↓reduceIte, reduceCtorEq, Nat.reduceLT, Nat.reduceEqDiff, Nat.reduceBEq, Nat.reduceAdd, Nat.reduceMul, Nat.reduceSub, Nat.reduceLeDiff, Int.reduceNeg, Int.reduceLT, Int.reduceLE, Int.reduceEq, Int.reduceAdd, Int.reduceToNat]); repeat ((first | refine AW.seq ?_ | refine AW.region env_ok ?_ | refine AW.region envR_ok ?_ | refine AW.skip ?_ | refine AW.block ?_ | refine AW.exit ?_ | refine AW.ret ?_ | (refine AW.cond (b := true) ?_ ?_; simp only [ev, upd, ↓reduceIte, Nat.reduceEqDiff]; rw [if_pos rfl]) | (refine AW.cond (b := false) ?_ ?_; simp only [ev, upd, ↓reduceIte, Nat.reduceEqDiff]; rw [if_neg Bool.false_ne_true]) | fail) <;> try simp only [go_sem, ↓reduceIte, reduceCtorEq, Nat.reduceLT, Nat.reduceEqDiff, Nat.reduceBEq, Nat.reduceAdd, Nat.reduceMul, Nat.reduceSub, Nat.reduceLeDiff, Int.reduceNeg, Int.reduceLT, Int.reduceLE, Int.reduceEq, Int.reduceAdd, Int.reduceToNat])); exact .inl (hno (if_pos (.inr (.inl c2))))
  by_cases c3 : IntKind.i64.wrap (m.row.line + n) < 0
  case pos => ((try simp only [go_sem, ↓reduceIte, reduceCtorEq, Nat.reduceLT, Nat.reduceEqDiff, Nat.reduceBEq, Nat.reduceAdd, Nat.reduceMul, Nat.reduceSub, Nat.reduceLeDiff, Int.reduceNeg, Int.reduceLT, Int.reduceLE, Int.reduceEq, Int.reduceAdd, Int.reduceToNat, hm, c1, c2, c3]); repeat ((first | refine AW.seq ?_ | refine AW.region env_ok ?_ | refine AW.region envR_ok ?_ | refine AW.skip ?_ | refine AW.block ?_ | refine AW.exit ?_ | refine AW.ret ?_ | (refine AW.cond (b := true) ?_ ?_; simp only [ev, upd, ↓reduceIte, Nat.reduceEqDiff]; rw [if_pos rfl]) | (refine AW.cond (b := false) ?_ ?_; simp only [ev, upd, ↓reduceIte, Nat.reduceEqDiff]; rw [if_neg Bool.false_ne_true]) | fail) <;> try simp only [go_sem, ↓reduceIte, reduceCtorEq, Nat.reduceLT, Nat.reduceEqDiff, Nat.reduceBEq, Nat.reduceAdd, Nat.reduceMul, Nat.reduceSub, Nat.reduceLeDiff, Int.reduceNeg, Int.reduceLT, Int.reduceLE, Int.reduceEq, Int.reduceAdd, Int.reduceToNat, hm, c1, c2, c3])); refine Fail_spec hc ?_; ((try simp only [go_sem, ↓reduceIte, reduceCtorEq, Nat.reduceLT, Nat.reduceEqDiff, Nat.reduceBEq, Nat.reduceAdd, Nat.reduceMul, Nat.reduceSub, Nat.reduceLeDiff, Int.reduceNeg, Int.reduceLT, Int.reduceLE, Int.reduceEq, Int.reduceAdd, Int.reduceToNat]); repeat ((first | refine AW.seq ?_ | refine AW.region env_ok ?_ | refine AW.region envR_ok ?_ | refine AW.skip ?_ | refine AW.block ?_ | refine AW.exit ?_ | refine AW.ret ?_ | (refine AW.cond (b := true) ?_ ?_; simp only [ev, upd, ↓reduceIte, Nat.reduceEqDiff]; rw [if_pos rfl]) | (refine AW.cond (b := false) ?_ ?_; simp only [ev, upd, ↓reduceIte, Nat.reduceEqDiff]; rw [if_neg Bool.false_ne_true]) | fail) <;> try simp only [go_sem, ↓reduceIte, reduceCtorEq, Nat.reduceLT, Nat.reduceEqDiff, Nat.reduceBEq, Nat.reduceAdd, Nat.reduceMul, Nat.reduceSub, Nat.reduceLeDiff, Int.reduceNeg, Int.reduceLT, Int.reduceLE, Int.reduceEq, Int.reduceAdd, Int.reduceToNat])); exact .inl (hno (if_pos (.inr (.inr (.inl c3)))))
  by_cases c4 : IntKind.i64.wrap (m.row.line + n) > 2147483647
  case pos => ((try simp only [go_sem, ↓reduceIte, reduceCtorEq, Nat.reduceLT, Nat.reduceEqDiff, Nat.reduceBEq, Nat.reduceAdd, Nat.reduceMul, Nat.reduceSub, Nat.reduceLeDiff, Int.reduceNeg, Int.reduceLT, Int.reduceLE, Int.reduceEq, Int.reduceAdd, Int.reduceToNat, hm, c1, c2, c3, c4]); repeat ((first | refine AW.seq ?_ | refine AW.region env_ok ?_ | refine AW.region envR_ok ?_ | refine AW.skip ?_ | refine AW.block ?_ | refine AW.exit ?_ | refine AW.ret ?_ | (refine AW.cond (b := true) ?_ ?_; simp only [ev, upd, ↓reduceIte, Nat.reduceEqDiff]; rw [if_pos rfl]) | (refine AW.cond (b := false) ?_ ?_; simp only [ev, upd, ↓reduceIte, Nat.reduceEqDiff]; rw [if_neg Bool.false_ne_true]) | fail) <;> try simp only [go_sem, ↓reduceIte, reduceCtorEq, Nat.reduceLT, Nat.reduceEqDiff, Nat.reduceBEq, Nat.reduceAdd, Nat.reduceMul, Nat.reduceSub, Nat.reduceLeDiff, Int.reduceNeg, Int.reduceLT, Int.reduceLE, Int.reduceEq, Int.reduceAdd, Int.reduceToNat, hm, c1, c2, c3, c4])); refine Fail_spec hc ?_; ((try simp only [go_sem, ↓reduceIte, reduceCtorEq, Nat.reduceLT, Nat.reduceEqDiff, Nat.reduceBEq, Nat.reduceAdd, Nat.reduceMul, Nat.reduceSub, Nat.reduceLeDiff, Int.reduceNeg, Int.reduceLT, Int.reduceLE, Int.reduceEq, Int.reduceAdd, Int.reduceToNat]); repeat ((first | refine AW.seq ?_ | refine AW.region env_ok ?_ | refine AW.region envR_ok ?_ | refine AW.skip ?_ | refine AW.block ?_ | refine AW.exit ?_ | refine AW.ret ?_ | (refine AW.cond (b := true) ?_ ?_; simp only [ev, upd, ↓reduceIte, Nat.reduceEqDiff]; rw [if_pos rfl]) | (refine AW.cond (b := false) ?_ ?_; simp only [ev, upd, ↓reduceIte, Nat.reduceEqDiff]; rw [if_neg Bool.false_ne_true]) | fail) <;> try simp only [go_sem, ↓reduceIte, reduceCtorEq, Nat.reduceLT, Nat.reduceEqDiff, Nat.reduceBEq, Nat.reduceAdd, Nat.reduceMul, Nat.reduceSub, Nat.reduceLeDiff, Int.reduceNeg, Int.reduceLT, Int.reduceLE, Int.reduceEq, Int.reduceAdd, Int.reduceToNat])); exact .inl (hno (if_pos (.inr (.inr (.inr c4)))))
  have e : m.line n = { m with row := { m.row with line := IntKind.i64.wrap (m.row.line + n) } } := if_neg (by rintro (c | c | c | c) <;> contradiction)
  rw [e, set_same hc] at h
  ((try simp only [go_sem, ↓reduceIte, reduceCtorEq, Nat.reduceLT, Nat.reduceEqDiff, Nat.reduceBEq, Nat.reduceAdd, Nat.reduceMul, Nat.reduceSub, Nat.reduceLeDiff, Int.reduceNeg, Int.reduceLT, Int.reduceLE, Int.reduceEq, Int.reduceAdd, Int.reduceToNat, hm, c1, c2, c3, c4]); repeat ((first | refine AW.seq ?_ | refine AW.region env_ok ?_ | refine AW.region envR_ok ?_ | refine AW.skip ?_ | refine AW.block ?_ | refine AW.exit ?_ | refine AW.ret ?_ | (refine AW.cond (b := true) ?_ ?_; simp only [ev, upd, ↓reduceIte, Nat.reduceEqDiff]; rw [if_pos rfl]) | (refine AW.cond (b := false) ?_ ?_; simp only [ev, upd, ↓reduceIte, Nat.reduceEqDiff]; rw [if_neg Bool.false_ne_true]) | fail) <;> try simp only [go_sem, ↓reduceIte, reduceCtorEq, Nat.reduceLT, Nat.reduceEqDiff, Nat.reduceBEq, Nat.reduceAdd, Nat.reduceMul, Nat.reduceSub, Nat.reduceLeDiff, Int.reduceNeg, Int.reduceLT, Int.reduceLE, Int.reduceEq, Int.reduceAdd, Int.reduceToNat, hm, c1, c2, c3, c4]))
  exact .inl h

theorem told_spec (hne : pc ≠ pm) (h0 : m.s.err = 0) (hout : m.out.length ≤ 2000) (hk : k ≤ m.out.length) (hc : G[pc]? = some (.cells m.s.cur)) (hm : G[pm]? = some (m.ob hd pc k))
    (h : Q (.tup []) ((G.set pc (.cells m.tell.s.cur)).set pm (m.tell.ob hd pc k))) : AC Try.prog 35 [.ptr (some (pm, 0))] G Q := by
  have hlt := lt_of_get hm
  have hltc := lt_of_get hc
  have hmapl : ∀ v : A, [v].map lv1 = [lv1 v] := fun _ => rfl
  have hs1 : ∀ x, (G.set pm x)[pm]? = some x := fun x => by simp [hlt]
  have hs2 : ∀ x y, (G.set pm x).set pm y = G.set pm y := fun x y => List.set_set ..
  refine AC.enter (E := env Try.prog 42 (fun t => if t == 17 then .take else .copy) (fun _ => false)) env_ok Try.func35 rfl rfl rfl (by simp only [List.length_cons, List.length_nil]; exact of_decide_eq_true rfl) ?_
  by_cases c : m.out.length = 2000
  · have c' : (m.out.length : Int) = 2000 := by omega
    have e : m.tell = m.fail 3 := by unfold MS.tell; rw [if_pos h0, if_pos c]
    ((try simp only [go_sem, ↓reduceIte, reduceCtorEq, Nat.reduceLT, Nat.reduceEqDiff, Nat.reduceBEq, Nat.reduceAdd, Nat.reduceMul, Nat.reduceSub, Nat.reduceLeDiff, Int.reduceNeg, Int.reduceLT, Int.reduceLE, Int.reduceEq, Int.reduceAdd, Int.reduceToNat, hm, c']); repeat ((first | refine AW.seq ?_ | refine AW.regionX env_ok (fun t => t == 5) ?_ | refine AW.regionX envR_ok (fun t => t == 5) ?_ | refine AW.skip ?_ | refine AW.block ?_ | refine AW.exit ?_ | refine AW.ret ?_ | (refine AW.cond (b := true) ?_ ?_; simp only [ev, upd, ↓reduceIte, Nat.reduceEqDiff]; rw [if_pos rfl]) | (refine AW.cond (b := false) ?_ ?_; simp only [ev, upd, ↓reduceIte, Nat.reduceEqDiff]; rw [if_neg Bool.false_ne_true]) | fail) <;> try simp only [go_sem, ↓reduceIte, reduceCtorEq, Nat.reduceLT, Nat.reduceEqDiff, Nat.reduceBEq, Nat.reduceAdd, Nat.reduceMul, Nat.reduceSub, Nat.reduceLeDiff, Int.reduceNeg, Int.reduceLT, Int.reduceLE, Int.reduceEq, Int.reduceAdd, Int.reduceToNat, hm, c']))
    refine Fail_spec hc ?_
    ((try simp only [go_sem, ↓reduceIte, reduceCtorEq, Nat.reduceLT, Nat.reduceEqDiff, Nat.reduceBEq, Nat.reduceAdd, Nat.reduceMul, Nat.reduceSub, Nat.reduceLeDiff, Int.reduceNeg, Int.reduceLT, Int.reduceLE, Int.reduceEq, Int.reduceAdd, Int.reduceToNat]); repeat ((first | refine AW.seq ?_ | refine AW.region env_ok ?_ | refine AW.region envR_ok ?_ | refine AW.skip ?_ | refine AW.block ?_ | refine AW.exit ?_ | refine AW.ret ?_ | (refine AW.cond (b := true) ?_ ?_; simp only [ev, upd, ↓reduceIte, Nat.reduceEqDiff]; rw [if_pos rfl]) | (refine AW.cond (b := false) ?_ ?_; simp only [ev, upd, ↓reduceIte, Nat.reduceEqDiff]; rw [if_neg Bool.false_ne_true]) | fail) <;> try simp only [go_sem, ↓reduceIte, reduceCtorEq, Nat.reduceLT, Nat.reduceEqDiff, Nat.reduceBEq, Nat.reduceAdd, Nat.reduceMul, Nat.reduceSub, Nat.reduceLeDiff, Int.reduceNeg, Int.reduceLT, Int.reduceLE, Int.reduceEq, Int.reduceAdd, Int.reduceToNat]))
    refine .inl ?_
    rw [e] at h
    have h2 : (G.set pc (.cells (m.fail 3).s.cur))[pm]? = some ((m.fail 3).ob hd pc k) := by rw [List.getElem?_set_ne hne]; exact hm
    rwa [set_same h2] at h
  · have c' : ¬ (m.out.length : Int) = 2000 := by omega
    ((try simp only [go_sem, ↓reduceIte, reduceCtorEq, Nat.reduceLT, Nat.reduceEqDiff, Nat.reduceBEq, Nat.reduceAdd, Nat.reduceMul, Nat.reduceSub, Nat.reduceLeDiff, Int.reduceNeg, Int.reduceLT, Int.reduceLE, Int.reduceEq, Int.reduceAdd, Int.reduceToNat, hm, c']); repeat ((first | refine AW.seq ?_ | refine AW.regionX env_ok (fun t => t == 5) ?_ | refine AW.regionX envR_ok (fun t => t == 5) ?_ | refine AW.skip ?_ | refine AW.block ?_ | refine AW.exit ?_ | refine AW.ret ?_ | (refine AW.cond (b := true) ?_ ?_; simp only [ev, upd, ↓reduceIte, Nat.reduceEqDiff]; rw [if_pos rfl]) | (refine AW.cond (b := false) ?_ ?_; simp only [ev, upd, ↓reduceIte, Nat.reduceEqDiff]; rw [if_neg Bool.false_ne_true]) | fail) <;> try simp only [go_sem, ↓reduceIte, reduceCtorEq, Nat.reduceLT, Nat.reduceEqDiff, Nat.reduceBEq, Nat.reduceAdd, Nat.reduceMul, Nat.reduceSub, Nat.reduceLeDiff, Int.reduceNeg, Int.reduceLT, Int.reduceLE, Int.reduceEq, Int.reduceAdd, Int.reduceToNat, hm, c']))
    refine AW.chain env_ok [0, 0, 2, 6, 14, 0, 32, 96, 224, 480, 1022, 2047, 4095, 8191] [0, 1, 2, 3, 5, 6, 7, 8, 9] [(4, [0, 5, 6, 7, 8, 9], []), (10, [0], [11, 12]), (13, [], [])] mixed (by decide) ?_
    have ew : (m.out.length + 1) * 56 ≤ 140737488355328 := by omega
    have hu : Uni 11 [V.agg m.row.cells] = true := rfl
    ((try simp only [go_sem, ↓reduceIte, reduceCtorEq, Nat.reduceLT, Nat.reduceEqDiff, Nat.reduceBEq, Nat.reduceAdd, Nat.reduceMul, Nat.reduceSub, Nat.reduceLeDiff, Int.reduceNeg, Int.reduceLT, Int.reduceLE, Int.reduceEq, Int.reduceAdd, Int.reduceToNat, hm, c', hs1, hs2, hmapl, leave1, ew, hu, hk]); repeat ((first | refine AW.seq ?_ | refine AW.region env_ok ?_ | refine AW.region envR_ok ?_ | refine AW.skip ?_ | refine AW.block ?_ | refine AW.exit ?_ | refine AW.ret ?_ | (refine AW.cond (b := true) ?_ ?_; simp only [ev, upd, ↓reduceIte, Nat.reduceEqDiff]; rw [if_pos rfl]) | (refine AW.cond (b := false) ?_ ?_; simp only [ev, upd, ↓reduceIte, Nat.reduceEqDiff]; rw [if_neg Bool.false_ne_true]) | fail) <;> try simp only [go_sem, ↓reduceIte, reduceCtorEq, Nat.reduceLT, Nat.reduceEqDiff, Nat.reduceBEq, Nat.reduceAdd, Nat.reduceMul, Nat.reduceSub, Nat.reduceLeDiff, Int.reduceNeg, Int.reduceLT, Int.reduceLE, Int.reduceEq, Int.reduceAdd, Int.reduceToNat, hm, c', hs1, hs2, hmapl, leave1, ew, hu, hk]))
    have e : m.tell = { m with out := m.out ++ [m.row], row := { m.row with disc := 0, blk := false, pro := false, epi := false } } := by unfold MS.tell; rw [if_pos h0, if_neg c]
    rw [e] at h
    rw [set_same hc] at h
    exact .inl h

theorem sg1 {H : Heap} {p : Nat} (h : p < H.length) (x : Ob Unit) : (H.set p x)[p]? = some x := by simp [h]
theorem sg2 {H : Heap} {p : Nat} (h : p < H.length) (q : Nat) (a x : Ob Unit) : ((H.set q a).set p x)[p]? = some x := by simp [h]
theorem MS.line_out (n : Int) : (m.line n).out = m.out := by unfold MS.line; split <;> rfl

theorem special_spec {n : Nat} (hne : pc ≠ pm) (hr : hd.range ≠ 0) (hn : n < 256) (hout : m.out.length ≤ 2000) (hk : k ≤ m.out.length) (hc : G[pc]? = some (.cells m.s.cur)) (hm : G[pm]? = some (m.ob hd pc k))
    (h : Q (.tup []) ((G.set pc (.cells (m.special hd n).s.cur)).set pm ((m.special hd n).ob hd pc k))) : AC Try.prog 21 [.ptr (some (pm, 0)), .int .i64 n] G Q := by
  have hlt := lt_of_get hm
  have hltc := lt_of_get hc
  refine AC.enter (E := env Try.prog 45 (fun _ => .copy) (fun _ => false)) env_ok Try.func21 rfl rfl rfl (by simp only [List.length_cons, List.length_nil]; exact of_decide_eq_true rfl) ?_
  ((try simp only [go_sem, ↓reduceIte, reduceCtorEq, Nat.reduceLT, Nat.reduceEqDiff, Nat.reduceBEq, Nat.reduceAdd, Nat.reduceMul, Nat.reduceSub, Nat.reduceLeDiff, Int.reduceNeg, Int.reduceLT, Int.reduceLE, Int.reduceEq, Int.reduceAdd, Int.reduceToNat, hm, hr]); repeat ((first | refine AW.seq ?_ | refine AW.region env_ok ?_ | refine AW.region envR_ok ?_ | refine AW.skip ?_ | refine AW.block ?_ | refine AW.exit ?_ | refine AW.ret ?_ | (refine AW.cond (b := true) ?_ ?_; simp only [ev, upd, ↓reduceIte, Nat.reduceEqDiff]; rw [if_pos rfl]) | (refine AW.cond (b := false) ?_ ?_; simp only [ev, upd, ↓reduceIte, Nat.reduceEqDiff]; rw [if_neg Bool.false_ne_true]) | fail) <;> try simp only [go_sem, ↓reduceIte, reduceCtorEq, Nat.reduceLT, Nat.reduceEqDiff, Nat.reduceBEq, Nat.reduceAdd, Nat.reduceMul, Nat.reduceSub, Nat.reduceLeDiff, Int.reduceNeg, Int.reduceLT, Int.reduceLE, Int.reduceEq, Int.reduceAdd, Int.reduceToNat, hm, hr]))
  refine by_spec (m := m) (k := k) hm ?_
  have hm2 : (G.set pm ((m.by hd (IntKind.u64.wrap (IntKind.i64.wrap ((IntKind.i64.wrap ((n : Int) - hd.codes)).tdiv hd.range)))).ob hd pc k))[pm]? = some ((m.by hd (IntKind.u64.wrap (IntKind.i64.wrap ((IntKind.i64.wrap ((n : Int) - hd.codes)).tdiv hd.range)))).ob hd pc k) := by simp [hlt]
  have hc2 : ∀ x, (G.set pm x)[pc]? = some (.cells m.s.cur) := fun x => by rw [List.getElem?_set_ne (fun e => hne e.symm)]; exact hc
  have hmby : ∀ j, (m.by hd j).s = m.s ∧ (m.by hd j).out = m.out := fun j => ⟨rfl, rfl⟩
  generalize hM : m.by hd (IntKind.u64.wrap (IntKind.i64.wrap ((IntKind.i64.wrap ((n : Int) - hd.codes)).tdiv hd.range))) = M at hm2 ⊢
  have hMs : M.s = m.s := by rw [← hM]; rfl
  have hMo : M.out = m.out := by rw [← hM]; rfl
  have hMsp : m.special hd n = (M.line (IntKind.i64.wrap (hd.base + (IntKind.i64.wrap ((n : Int) - hd.codes)).tmod hd.range))).tell := by rw [← hM]; rfl
  rw [hMsp] at h
  ((try simp only [go_sem, ↓reduceIte, reduceCtorEq, Nat.reduceLT, Nat.reduceEqDiff, Nat.reduceBEq, Nat.reduceAdd, Nat.reduceMul, Nat.reduceSub, Nat.reduceLeDiff, Int.reduceNeg, Int.reduceLT, Int.reduceLE, Int.reduceEq, Int.reduceAdd, Int.reduceToNat, hm]); repeat ((first | refine AW.seq ?_ | refine AW.region env_ok ?_ | refine AW.region envR_ok ?_ | refine AW.skip ?_ | refine AW.block ?_ | refine AW.exit ?_ | refine AW.ret ?_ | (refine AW.cond (b := true) ?_ ?_; simp only [ev, upd, ↓reduceIte, Nat.reduceEqDiff]; rw [if_pos rfl]) | (refine AW.cond (b := false) ?_ ?_; simp only [ev, upd, ↓reduceIte, Nat.reduceEqDiff]; rw [if_neg Bool.false_ne_true]) | fail) <;> try simp only [go_sem, ↓reduceIte, reduceCtorEq, Nat.reduceLT, Nat.reduceEqDiff, Nat.reduceBEq, Nat.reduceAdd, Nat.reduceMul, Nat.reduceSub, Nat.reduceLeDiff, Int.reduceNeg, Int.reduceLT, Int.reduceLE, Int.reduceEq, Int.reduceAdd, Int.reduceToNat, hm]))
  refine AW.chain env_ok [0, 0, 2, 6, 14, 30, 0, 0, 128, 384, 896, 1920, 4032, 8190, 16383] [0, 1, 2, 3, 4, 5, 6, 7, 8, 9, 10, 11, 12, 13] [(14, [], [])] mixed (by decide) ?_
  ((try simp only [go_sem, ↓reduceIte, reduceCtorEq, Nat.reduceLT, Nat.reduceEqDiff, Nat.reduceBEq, Nat.reduceAdd, Nat.reduceMul, Nat.reduceSub, Nat.reduceLeDiff, Int.reduceNeg, Int.reduceLT, Int.reduceLE, Int.reduceEq, Int.reduceAdd, Int.reduceToNat, sg1 hlt, hr]); repeat ((first | refine AW.seq ?_ | refine AW.region env_ok ?_ | refine AW.region envR_ok ?_ | refine AW.skip ?_ | refine AW.block ?_ | refine AW.exit ?_ | refine AW.ret ?_ | (refine AW.cond (b := true) ?_ ?_; simp only [ev, upd, ↓reduceIte, Nat.reduceEqDiff]; rw [if_pos rfl]) | (refine AW.cond (b := false) ?_ ?_; simp only [ev, upd, ↓reduceIte, Nat.reduceEqDiff]; rw [if_neg Bool.false_ne_true]) | fail) <;> try simp only [go_sem, ↓reduceIte, reduceCtorEq, Nat.reduceLT, Nat.reduceEqDiff, Nat.reduceBEq, Nat.reduceAdd, Nat.reduceMul, Nat.reduceSub, Nat.reduceLeDiff, Int.reduceNeg, Int.reduceLT, Int.reduceLE, Int.reduceEq, Int.reduceAdd, Int.reduceToNat, sg1 hlt, hr]))
  refine line_spec (m := M) (k := k) hne (by rw [hMs]; exact hc2 _) hm2 ?_
  rw [List.set_comm _ _ hne.symm, List.set_set]
  generalize hL : M.line (IntKind.i64.wrap (hd.base + (IntKind.i64.wrap ((n : Int) - hd.codes)).tmod hd.range)) = L at h ⊢
  have hLo : L.out = m.out := by rw [← hL, MS.line_out, hMo]
  have g1 : ((G.set pc (Ob.cells L.s.cur)).set pm (L.ob hd pc k))[pc]? = some (.cells L.s.cur) := by rw [List.getElem?_set_ne (fun e => hne e.symm)]; simp [hltc]
  have g2 : ((G.set pc (Ob.cells L.s.cur)).set pm (L.ob hd pc k))[pm]? = some (L.ob hd pc k) := by simp [hlt]
  ((try simp only [go_sem, ↓reduceIte, reduceCtorEq, Nat.reduceLT, Nat.reduceEqDiff, Nat.reduceBEq, Nat.reduceAdd, Nat.reduceMul, Nat.reduceSub, Nat.reduceLeDiff, Int.reduceNeg, Int.reduceLT, Int.reduceLE, Int.reduceEq, Int.reduceAdd, Int.reduceToNat, sg2 hlt]); repeat ((first | refine AW.seq ?_ | refine AW.region env_ok ?_ | refine AW.region envR_ok ?_ | refine AW.skip ?_ | refine AW.block ?_ | refine AW.exit ?_ | refine AW.ret ?_ | (refine AW.cond (b := true) ?_ ?_; simp only [ev, upd, ↓reduceIte, Nat.reduceEqDiff]; rw [if_pos rfl]) | (refine AW.cond (b := false) ?_ ?_; simp only [ev, upd, ↓reduceIte, Nat.reduceEqDiff]; rw [if_neg Bool.false_ne_true]) | fail) <;> try simp only [go_sem, ↓reduceIte, reduceCtorEq, Nat.reduceLT, Nat.reduceEqDiff, Nat.reduceBEq, Nat.reduceAdd, Nat.reduceMul, Nat.reduceSub, Nat.reduceLeDiff, Int.reduceNeg, Int.reduceLT, Int.reduceLE, Int.reduceEq, Int.reduceAdd, Int.reduceToNat, sg2 hlt]))
  refine Err_spec g1 ?_
  by_cases e : L.s.err = 0
  · ((try simp only [go_sem, ↓reduceIte, reduceCtorEq, Nat.reduceLT, Nat.reduceEqDiff, Nat.reduceBEq, Nat.reduceAdd, Nat.reduceMul, Nat.reduceSub, Nat.reduceLeDiff, Int.reduceNeg, Int.reduceLT, Int.reduceLE, Int.reduceEq, Int.reduceAdd, Int.reduceToNat, e]); repeat ((first | refine AW.seq ?_ | refine AW.region env_ok ?_ | refine AW.region envR_ok ?_ | refine AW.skip ?_ | refine AW.block ?_ | refine AW.exit ?_ | refine AW.ret ?_ | (refine AW.cond (b := true) ?_ ?_; simp only [ev, upd, ↓reduceIte, Nat.reduceEqDiff]; rw [if_pos rfl]) | (refine AW.cond (b := false) ?_ ?_; simp only [ev, upd, ↓reduceIte, Nat.reduceEqDiff]; rw [if_neg Bool.false_ne_true]) | fail) <;> try simp only [go_sem, ↓reduceIte, reduceCtorEq, Nat.reduceLT, Nat.reduceEqDiff, Nat.reduceBEq, Nat.reduceAdd, Nat.reduceMul, Nat.reduceSub, Nat.reduceLeDiff, Int.reduceNeg, Int.reduceLT, Int.reduceLE, Int.reduceEq, Int.reduceAdd, Int.reduceToNat, e]))
    refine told_spec hne e (by rw [hLo]; exact hout) (by rw [hLo]; exact hk) g1 g2 ?_
    rw [List.set_comm _ _ hne.symm, List.set_set, List.set_comm _ _ hne, List.set_set] 
    ((try simp only [go_sem, ↓reduceIte, reduceCtorEq, Nat.reduceLT, Nat.reduceEqDiff, Nat.reduceBEq, Nat.reduceAdd, Nat.reduceMul, Nat.reduceSub, Nat.reduceLeDiff, Int.reduceNeg, Int.reduceLT, Int.reduceLE, Int.reduceEq, Int.reduceAdd, Int.reduceToNat]); repeat ((first | refine AW.seq ?_ | refine AW.region env_ok ?_ | refine AW.region envR_ok ?_ | refine AW.skip ?_ | refine AW.block ?_ | refine AW.exit ?_ | refine AW.ret ?_ | (refine AW.cond (b := true) ?_ ?_; simp only [ev, upd, ↓reduceIte, Nat.reduceEqDiff]; rw [if_pos rfl]) | (refine AW.cond (b := false) ?_ ?_; simp only [ev, upd, ↓reduceIte, Nat.reduceEqDiff]; rw [if_neg Bool.false_ne_true]) | fail) <;> try simp only [go_sem, ↓reduceIte, reduceCtorEq, Nat.reduceLT, Nat.reduceEqDiff, Nat.reduceBEq, Nat.reduceAdd, Nat.reduceMul, Nat.reduceSub, Nat.reduceLeDiff, Int.reduceNeg, Int.reduceLT, Int.reduceLE, Int.reduceEq, Int.reduceAdd, Int.reduceToNat]))
    exact .inl h
  · ((try simp only [go_sem, ↓reduceIte, reduceCtorEq, Nat.reduceLT, Nat.reduceEqDiff, Nat.reduceBEq, Nat.reduceAdd, Nat.reduceMul, Nat.reduceSub, Nat.reduceLeDiff, Int.reduceNeg, Int.reduceLT, Int.reduceLE, Int.reduceEq, Int.reduceAdd, Int.reduceToNat, e]); repeat ((first | refine AW.seq ?_ | refine AW.region env_ok ?_ | refine AW.region envR_ok ?_ | refine AW.skip ?_ | refine AW.block ?_ | refine AW.exit ?_ | refine AW.ret ?_ | (refine AW.cond (b := true) ?_ ?_; simp only [ev, upd, ↓reduceIte, Nat.reduceEqDiff]; rw [if_pos rfl]) | (refine AW.cond (b := false) ?_ ?_; simp only [ev, upd, ↓reduceIte, Nat.reduceEqDiff]; rw [if_neg Bool.false_ne_true]) | fail) <;> try simp only [go_sem, ↓reduceIte, reduceCtorEq, Nat.reduceLT, Nat.reduceEqDiff, Nat.reduceBEq, Nat.reduceAdd, Nat.reduceMul, Nat.reduceSub, Nat.reduceLeDiff, Int.reduceNeg, Int.reduceLT, Int.reduceLE, Int.reduceEq, Int.reduceAdd, Int.reduceToNat, e]))
    have : L.tell = L := if_neg e
    rw [this] at h
    exact .inl h
end
end Go.Ab
end

section
/- Package linerun: long operations. -/
namespace Go.Ab
open V Go.Proofs
set_option maxHeartbeats 4000000
set_option maxRecDepth 10000
set_option linter.unusedSimpArgs false
set_option linter.unusedVariables false

section
variable {hd : HD} {H G : Heap} {Q : A → Heap → Prop} {m : MS} {pc pm k : Nat}

theorem one_app (H : Heap) (a b : Ob Unit) : H ++ [a] ++ [b] = H ++ [a, b] := by simp
theorem len_one (H : Heap) (a : Ob Unit) : (H ++ [a]).length = H.length + 1 := by simp
theorem Start_spec (h : Q (.agg (RW.start hd).cells) H) : AC Try.prog 11 [.agg hd.cells] H Q := by
  refine AC.enter (E := env Try.prog 6 (fun _ => .copy) (fun _ => false)) env_ok Try.func11 rfl rfl rfl (by simp only [List.length_cons, List.length_nil]; exact of_decide_eq_true rfl) ?_
  ((try simp only [go_sem, ↓reduceIte, reduceCtorEq, Nat.reduceLT, Nat.reduceEqDiff, Nat.reduceBEq, Nat.reduceAdd, Nat.reduceMul, Nat.reduceSub, Nat.reduceLeDiff, Int.reduceNeg, Int.reduceLT, Int.reduceLE, Int.reduceEq, Int.reduceAdd, Int.reduceToNat, get_last, set_last, one_app, len_one]); repeat ((first | refine AW.seq ?_ | refine AW.region env_ok ?_ | refine AW.region envR_ok ?_ | refine AW.skip ?_ | refine AW.block ?_ | refine AW.exit ?_ | refine AW.ret ?_ | (refine AW.cond (b := true) ?_ ?_; simp only [ev, upd, ↓reduceIte, Nat.reduceEqDiff]; rw [if_pos rfl]) | (refine AW.cond (b := false) ?_ ?_; simp only [ev, upd, ↓reduceIte, Nat.reduceEqDiff]; rw [if_neg Bool.false_ne_true]) | fail) <;> try simp only [go_sem, ↓reduceIte, reduceCtorEq, Nat.reduceLT, Nat.reduceEqDiff, Nat.reduceBEq, Nat.reduceAdd, Nat.reduceMul, Nat.reduceSub, Nat.reduceLeDiff, Int.reduceNeg, Int.reduceLT, Int.reduceLE, Int.reduceEq, Int.reduceAdd, Int.reduceToNat, get_last, set_last, one_app, len_one]))
  exact .inr h

theorem take1_cons (x : UInt8) (b : List UInt8) : (CS.mk (x :: b) 0 0).take 1 = ([x], CS.mk (x :: b) 1 0) := by
  unfold CS.take
  simp
theorem take_len2 (s : CS) (n : Nat) : (s.take n).1.length ≤ s.b.length := by
  unfold CS.take
  split
  · split
    · simp; omega
    · simp
  · simp
theorem le_one (x : UInt8) : le [x] = x.toNat := by simp [le]

theorem long_spec (hs : m.s.Ok) (hb : m.s.b.length < 140737488355328) (hout : m.out.length ≤ 2000) (hk : k ≤ m.out.length)
    (h : Q (.tup []) (H ++ [.cells (m.long hd).s.cur, (m.long hd).ob hd H.length k])) :
    AC Try.prog 36 [.ptr (some (H.length + 1, 0))] (H ++ [.cells m.s.cur, m.ob hd H.length k]) Q := by
  have hs1 := hs.uleb
  have hs2 := hs1.take m.s.uleb.1
  have hn := CS.uleb_lt hs
  have hb1 : m.s.uleb.2.b.length < 140737488355328 := by rw [CS.uleb_b hs]; exact hb
  have hlen : (m.s.uleb.2.take m.s.uleb.1).2.err = 0 → (m.s.uleb.2.take m.s.uleb.1).1.length = m.s.uleb.1 := take_fst
  have htl := take_len2 m.s.uleb.2 m.s.uleb.1
  unfold MS.long at h
  simp only at h
  generalize hn' : m.s.uleb.1 = n at *
  generalize hs1' : m.s.uleb.2 = s1 at *
  generalize hb' : (s1.take n).1 = b at *
  generalize hs2' : (s1.take n).2 = s2 at *
  refine AC.enter (E := env Try.prog 95 (fun _ => .copy) (fun _ => false)) env_ok Try.func36 rfl rfl rfl (by simp only [List.length_cons, List.length_nil]; exact of_decide_eq_true rfl) ?_
  ((try simp only [go_sem, ↓reduceIte, reduceCtorEq, Nat.reduceLT, Nat.reduceEqDiff, Nat.reduceBEq, Nat.reduceAdd, Nat.reduceMul, Nat.reduceSub, Nat.reduceLeDiff, Int.reduceNeg, Int.reduceLT, Int.reduceLE, Int.reduceEq, Int.reduceAdd, Int.reduceToNat]); repeat ((first | refine AW.seq ?_ | refine AW.region env_ok ?_ | refine AW.region envR_ok ?_ | refine AW.skip ?_ | refine AW.block ?_ | refine AW.exit ?_ | refine AW.ret ?_ | (refine AW.cond (b := true) ?_ ?_; simp only [ev, upd, ↓reduceIte, Nat.reduceEqDiff]; rw [if_pos rfl]) | (refine AW.cond (b := false) ?_ ?_; simp only [ev, upd, ↓reduceIte, Nat.reduceEqDiff]; rw [if_neg Bool.false_ne_true]) | fail) <;> try simp only [go_sem, ↓reduceIte, reduceCtorEq, Nat.reduceLT, Nat.reduceEqDiff, Nat.reduceBEq, Nat.reduceAdd, Nat.reduceMul, Nat.reduceSub, Nat.reduceLeDiff, Int.reduceNeg, Int.reduceLT, Int.reduceLE, Int.reduceEq, Int.reduceAdd, Int.reduceToNat]))
  refine U_spec hs (two_0 ..) ?_
  rw [hn', hs1']
  ((try simp only [go_sem, ↓reduceIte, reduceCtorEq, Nat.reduceLT, Nat.reduceEqDiff, Nat.reduceBEq, Nat.reduceAdd, Nat.reduceMul, Nat.reduceSub, Nat.reduceLeDiff, Int.reduceNeg, Int.reduceLT, Int.reduceLE, Int.reduceEq, Int.reduceAdd, Int.reduceToNat]); repeat ((first | refine AW.seq ?_ | refine AW.region env_ok ?_ | refine AW.region envR_ok ?_ | refine AW.skip ?_ | refine AW.block ?_ | refine AW.exit ?_ | refine AW.ret ?_ | (refine AW.cond (b := true) ?_ ?_; simp only [ev, upd, ↓reduceIte, Nat.reduceEqDiff]; rw [if_pos rfl]) | (refine AW.cond (b := false) ?_ ?_; simp only [ev, upd, ↓reduceIte, Nat.reduceEqDiff]; rw [if_neg Bool.false_ne_true]) | fail) <;> try simp only [go_sem, ↓reduceIte, reduceCtorEq, Nat.reduceLT, Nat.reduceEqDiff, Nat.reduceBEq, Nat.reduceAdd, Nat.reduceMul, Nat.reduceSub, Nat.reduceLeDiff, Int.reduceNeg, Int.reduceLT, Int.reduceLE, Int.reduceEq, Int.reduceAdd, Int.reduceToNat]))
  refine Sub_spec hn hs1 hb1 (two_0 ..) ?_
  rw [hb', hs2']
  ((try simp only [go_sem, ↓reduceIte, reduceCtorEq, Nat.reduceLT, Nat.reduceEqDiff, Nat.reduceBEq, Nat.reduceAdd, Nat.reduceMul, Nat.reduceSub, Nat.reduceLeDiff, Int.reduceNeg, Int.reduceLT, Int.reduceLE, Int.reduceEq, Int.reduceAdd, Int.reduceToNat]); repeat ((first | refine AW.seq ?_ | refine AW.region env_ok ?_ | refine AW.region envR_ok ?_ | refine AW.skip ?_ | refine AW.block ?_ | refine AW.exit ?_ | refine AW.ret ?_ | (refine AW.cond (b := true) ?_ ?_; simp only [ev, upd, ↓reduceIte, Nat.reduceEqDiff]; rw [if_pos rfl]) | (refine AW.cond (b := false) ?_ ?_; simp only [ev, upd, ↓reduceIte, Nat.reduceEqDiff]; rw [if_neg Bool.false_ne_true]) | fail) <;> try simp only [go_sem, ↓reduceIte, reduceCtorEq, Nat.reduceLT, Nat.reduceEqDiff, Nat.reduceBEq, Nat.reduceAdd, Nat.reduceMul, Nat.reduceSub, Nat.reduceLeDiff, Int.reduceNeg, Int.reduceLT, Int.reduceLE, Int.reduceEq, Int.reduceAdd, Int.reduceToNat]))
  refine Err_spec (three_0 ..) ?_
  by_cases e : s2.err = 0
  case neg =>
    rw [if_pos e] at h
    ((try simp only [go_sem, ↓reduceIte, reduceCtorEq, Nat.reduceLT, Nat.reduceEqDiff, Nat.reduceBEq, Nat.reduceAdd, Nat.reduceMul, Nat.reduceSub, Nat.reduceLeDiff, Int.reduceNeg, Int.reduceLT, Int.reduceLE, Int.reduceEq, Int.reduceAdd, Int.reduceToNat, e]); repeat ((first | refine AW.seq ?_ | refine AW.region env_ok ?_ | refine AW.region envR_ok ?_ | refine AW.skip ?_ | refine AW.block ?_ | refine AW.exit ?_ | refine AW.ret ?_ | (refine AW.cond (b := true) ?_ ?_; simp only [ev, upd, ↓reduceIte, Nat.reduceEqDiff]; rw [if_pos rfl]) | (refine AW.cond (b := false) ?_ ?_; simp only [ev, upd, ↓reduceIte, Nat.reduceEqDiff]; rw [if_neg Bool.false_ne_true]) | fail) <;> try simp only [go_sem, ↓reduceIte, reduceCtorEq, Nat.reduceLT, Nat.reduceEqDiff, Nat.reduceBEq, Nat.reduceAdd, Nat.reduceMul, Nat.reduceSub, Nat.reduceLeDiff, Int.reduceNeg, Int.reduceLT, Int.reduceLE, Int.reduceEq, Int.reduceAdd, Int.reduceToNat, e]))
    exact .inr h
  rw [if_neg (by simpa using e)] at h
  have hbl := hlen e
  rw [e]
  ((try simp only [go_sem, ↓reduceIte, reduceCtorEq, Nat.reduceLT, Nat.reduceEqDiff, Nat.reduceBEq, Nat.reduceAdd, Nat.reduceMul, Nat.reduceSub, Nat.reduceLeDiff, Int.reduceNeg, Int.reduceLT, Int.reduceLE, Int.reduceEq, Int.reduceAdd, Int.reduceToNat, e]); repeat ((first | refine AW.seq ?_ | refine AW.region env_ok ?_ | refine AW.region envR_ok ?_ | refine AW.skip ?_ | refine AW.block ?_ | refine AW.exit ?_ | refine AW.ret ?_ | (refine AW.cond (b := true) ?_ ?_; simp only [ev, upd, ↓reduceIte, Nat.reduceEqDiff]; rw [if_pos rfl]) | (refine AW.cond (b := false) ?_ ?_; simp only [ev, upd, ↓reduceIte, Nat.reduceEqDiff]; rw [if_neg Bool.false_ne_true]) | fail) <;> try simp only [go_sem, ↓reduceIte, reduceCtorEq, Nat.reduceLT, Nat.reduceEqDiff, Nat.reduceBEq, Nat.reduceAdd, Nat.reduceMul, Nat.reduceSub, Nat.reduceLeDiff, Int.reduceNeg, Int.reduceLT, Int.reduceLE, Int.reduceEq, Int.reduceAdd, Int.reduceToNat, e]))
  refine U8_spec (s := CS.mk b 0 0) (by unfold CS.Ok; simp only; omega) (three_2 ..) ?_
  by_cases c0 : n = 0
  · rw [if_pos (.inl c0)] at h
    have c0' : (n : Int) = 0 := by omega
    ((try simp only [go_sem, ↓reduceIte, reduceCtorEq, Nat.reduceLT, Nat.reduceEqDiff, Nat.reduceBEq, Nat.reduceAdd, Nat.reduceMul, Nat.reduceSub, Nat.reduceLeDiff, Int.reduceNeg, Int.reduceLT, Int.reduceLE, Int.reduceEq, Int.reduceAdd, Int.reduceToNat, c0']); repeat ((first | refine AW.seq ?_ | refine AW.region env_ok ?_ | refine AW.region envR_ok ?_ | refine AW.skip ?_ | refine AW.block ?_ | refine AW.exit ?_ | refine AW.ret ?_ | (refine AW.cond (b := true) ?_ ?_; simp only [ev, upd, ↓reduceIte, Nat.reduceEqDiff]; rw [if_pos rfl]) | (refine AW.cond (b := false) ?_ ?_; simp only [ev, upd, ↓reduceIte, Nat.reduceEqDiff]; rw [if_neg Bool.false_ne_true]) | fail) <;> try simp only [go_sem, ↓reduceIte, reduceCtorEq, Nat.reduceLT, Nat.reduceEqDiff, Nat.reduceBEq, Nat.reduceAdd, Nat.reduceMul, Nat.reduceSub, Nat.reduceLeDiff, Int.reduceNeg, Int.reduceLT, Int.reduceLE, Int.reduceEq, Int.reduceAdd, Int.reduceToNat, c0']))
    refine Fail_spec (three_0 ..) ?_
    ((try simp only [go_sem, ↓reduceIte, reduceCtorEq, Nat.reduceLT, Nat.reduceEqDiff, Nat.reduceBEq, Nat.reduceAdd, Nat.reduceMul, Nat.reduceSub, Nat.reduceLeDiff, Int.reduceNeg, Int.reduceLT, Int.reduceLE, Int.reduceEq, Int.reduceAdd, Int.reduceToNat]); repeat ((first | refine AW.seq ?_ | refine AW.region env_ok ?_ | refine AW.region envR_ok ?_ | refine AW.skip ?_ | refine AW.block ?_ | refine AW.exit ?_ | refine AW.ret ?_ | (refine AW.cond (b := true) ?_ ?_; simp only [ev, upd, ↓reduceIte, Nat.reduceEqDiff]; rw [if_pos rfl]) | (refine AW.cond (b := false) ?_ ?_; simp only [ev, upd, ↓reduceIte, Nat.reduceEqDiff]; rw [if_neg Bool.false_ne_true]) | fail) <;> try simp only [go_sem, ↓reduceIte, reduceCtorEq, Nat.reduceLT, Nat.reduceEqDiff, Nat.reduceBEq, Nat.reduceAdd, Nat.reduceMul, Nat.reduceSub, Nat.reduceLeDiff, Int.reduceNeg, Int.reduceLT, Int.reduceLE, Int.reduceEq, Int.reduceAdd, Int.reduceToNat]))
    exact .inr h
  have c0' : ¬ (n : Int) = 0 := by omega
  obtain ⟨x, b', rfl⟩ : ∃ x b', b = x :: b' := by
    cases b with
    | nil => simp at hbl; omega
    | cons x b' => exact ⟨x, b', rfl⟩
  rw [take1_cons, le_one]
  simp only [List.getD_cons_zero] at h
  have hsub : (CS.mk (x :: b') 1 0).Ok := by unfold CS.Ok; simp only [List.length_cons] at *; omega
  by_cases x1 : x.toNat = 1
  · have x1' : (x.toNat : Int) = 1 := by omega
    by_cases n1 : n = 1
    · have n1' : (n : Int) = 1 := by omega
      rw [if_neg (by omega), if_pos x1] at h
      ((try simp only [go_sem, ↓reduceIte, reduceCtorEq, Nat.reduceLT, Nat.reduceEqDiff, Nat.reduceBEq, Nat.reduceAdd, Nat.reduceMul, Nat.reduceSub, Nat.reduceLeDiff, Int.reduceNeg, Int.reduceLT, Int.reduceLE, Int.reduceEq, Int.reduceAdd, Int.reduceToNat, c0', x1', n1']); repeat ((first | refine AW.seq ?_ | refine AW.region env_ok ?_ | refine AW.region envR_ok ?_ | refine AW.skip ?_ | refine AW.block ?_ | refine AW.exit ?_ | refine AW.ret ?_ | (refine AW.cond (b := true) ?_ ?_; simp only [ev, upd, ↓reduceIte, Nat.reduceEqDiff]; rw [if_pos rfl]) | (refine AW.cond (b := false) ?_ ?_; simp only [ev, upd, ↓reduceIte, Nat.reduceEqDiff]; rw [if_neg Bool.false_ne_true]) | fail) <;> try simp only [go_sem, ↓reduceIte, reduceCtorEq, Nat.reduceLT, Nat.reduceEqDiff, Nat.reduceBEq, Nat.reduceAdd, Nat.reduceMul, Nat.reduceSub, Nat.reduceLeDiff, Int.reduceNeg, Int.reduceLT, Int.reduceLE, Int.reduceEq, Int.reduceAdd, Int.reduceToNat, c0', x1', n1']))
      refine told_spec (m := { m with s := s2, row := { m.row with stop := true } }) (pc := H.length) (pm := H.length + 1) (k := k) (by omega) e hout hk (three_0 ..) (three_1 ..) ?_
      have hd1 : flaglessL hd.cells = true := hd_flagless hd
      ((try simp only [go_sem, ↓reduceIte, reduceCtorEq, Nat.reduceLT, Nat.reduceEqDiff, Nat.reduceBEq, Nat.reduceAdd, Nat.reduceMul, Nat.reduceSub, Nat.reduceLeDiff, Int.reduceNeg, Int.reduceLT, Int.reduceLE, Int.reduceEq, Int.reduceAdd, Int.reduceToNat]); repeat ((first | refine AW.seq ?_ | refine AW.region env_ok ?_ | refine AW.region envR_ok ?_ | refine AW.skip ?_ | refine AW.block ?_ | refine AW.exit ?_ | refine AW.ret ?_ | (refine AW.cond (b := true) ?_ ?_; simp only [ev, upd, ↓reduceIte, Nat.reduceEqDiff]; rw [if_pos rfl]) | (refine AW.cond (b := false) ?_ ?_; simp only [ev, upd, ↓reduceIte, Nat.reduceEqDiff]; rw [if_neg Bool.false_ne_true]) | fail) <;> try simp only [go_sem, ↓reduceIte, reduceCtorEq, Nat.reduceLT, Nat.reduceEqDiff, Nat.reduceBEq, Nat.reduceAdd, Nat.reduceMul, Nat.reduceSub, Nat.reduceLeDiff, Int.reduceNeg, Int.reduceLT, Int.reduceLE, Int.reduceEq, Int.reduceAdd, Int.reduceToNat]))
      refine Start_spec ?_
      ((try simp only [go_sem, ↓reduceIte, reduceCtorEq, Nat.reduceLT, Nat.reduceEqDiff, Nat.reduceBEq, Nat.reduceAdd, Nat.reduceMul, Nat.reduceSub, Nat.reduceLeDiff, Int.reduceNeg, Int.reduceLT, Int.reduceLE, Int.reduceEq, Int.reduceAdd, Int.reduceToNat]); repeat ((first | refine AW.seq ?_ | refine AW.region env_ok ?_ | refine AW.region envR_ok ?_ | refine AW.skip ?_ | refine AW.block ?_ | refine AW.exit ?_ | refine AW.ret ?_ | (refine AW.cond (b := true) ?_ ?_; simp only [ev, upd, ↓reduceIte, Nat.reduceEqDiff]; rw [if_pos rfl]) | (refine AW.cond (b := false) ?_ ?_; simp only [ev, upd, ↓reduceIte, Nat.reduceEqDiff]; rw [if_neg Bool.false_ne_true]) | fail) <;> try simp only [go_sem, ↓reduceIte, reduceCtorEq, Nat.reduceLT, Nat.reduceEqDiff, Nat.reduceBEq, Nat.reduceAdd, Nat.reduceMul, Nat.reduceSub, Nat.reduceLeDiff, Int.reduceNeg, Int.reduceLT, Int.reduceLE, Int.reduceEq, Int.reduceAdd, Int.reduceToNat]))
      exact .inr h
    · have n1' : ¬ (n : Int) = 1 := by omega
      rw [if_pos (.inr (.inl ⟨x1, n1⟩))] at h
      have x2' : ¬ (1 : Int) = 2 := by omega
      ((try simp only [go_sem, ↓reduceIte, reduceCtorEq, Nat.reduceLT, Nat.reduceEqDiff, Nat.reduceBEq, Nat.reduceAdd, Nat.reduceMul, Nat.reduceSub, Nat.reduceLeDiff, Int.reduceNeg, Int.reduceLT, Int.reduceLE, Int.reduceEq, Int.reduceAdd, Int.reduceToNat, c0', x1', n1']); repeat ((first | refine AW.seq ?_ | refine AW.region env_ok ?_ | refine AW.region envR_ok ?_ | refine AW.skip ?_ | refine AW.block ?_ | refine AW.exit ?_ | refine AW.ret ?_ | (refine AW.cond (b := true) ?_ ?_; simp only [ev, upd, ↓reduceIte, Nat.reduceEqDiff]; rw [if_pos rfl]) | (refine AW.cond (b := false) ?_ ?_; simp only [ev, upd, ↓reduceIte, Nat.reduceEqDiff]; rw [if_neg Bool.false_ne_true]) | fail) <;> try simp only [go_sem, ↓reduceIte, reduceCtorEq, Nat.reduceLT, Nat.reduceEqDiff, Nat.reduceBEq, Nat.reduceAdd, Nat.reduceMul, Nat.reduceSub, Nat.reduceLeDiff, Int.reduceNeg, Int.reduceLT, Int.reduceLE, Int.reduceEq, Int.reduceAdd, Int.reduceToNat, c0', x1', n1']))
      refine Fail_spec (three_0 ..) ?_
      ((try simp only [go_sem, ↓reduceIte, reduceCtorEq, Nat.reduceLT, Nat.reduceEqDiff, Nat.reduceBEq, Nat.reduceAdd, Nat.reduceMul, Nat.reduceSub, Nat.reduceLeDiff, Int.reduceNeg, Int.reduceLT, Int.reduceLE, Int.reduceEq, Int.reduceAdd, Int.reduceToNat]); repeat ((first | refine AW.seq ?_ | refine AW.region env_ok ?_ | refine AW.region envR_ok ?_ | refine AW.skip ?_ | refine AW.block ?_ | refine AW.exit ?_ | refine AW.ret ?_ | (refine AW.cond (b := true) ?_ ?_; simp only [ev, upd, ↓reduceIte, Nat.reduceEqDiff]; rw [if_pos rfl]) | (refine AW.cond (b := false) ?_ ?_; simp only [ev, upd, ↓reduceIte, Nat.reduceEqDiff]; rw [if_neg Bool.false_ne_true]) | fail) <;> try simp only [go_sem, ↓reduceIte, reduceCtorEq, Nat.reduceLT, Nat.reduceEqDiff, Nat.reduceBEq, Nat.reduceAdd, Nat.reduceMul, Nat.reduceSub, Nat.reduceLeDiff, Int.reduceNeg, Int.reduceLT, Int.reduceLE, Int.reduceEq, Int.reduceAdd, Int.reduceToNat]))
      exact .inr h
  have x1' : ¬ (x.toNat : Int) = 1 := by omega
  by_cases x2 : x.toNat = 2
  · have x2' : (x.toNat : Int) = 2 := by omega
    by_cases n9 : n = 9
    · have n9' : (n : Int) = 9 := by omega
      rw [if_neg (by omega), if_neg x1, if_pos x2] at h
      ((try simp only [go_sem, ↓reduceIte, reduceCtorEq, Nat.reduceLT, Nat.reduceEqDiff, Nat.reduceBEq, Nat.reduceAdd, Nat.reduceMul, Nat.reduceSub, Nat.reduceLeDiff, Int.reduceNeg, Int.reduceLT, Int.reduceLE, Int.reduceEq, Int.reduceAdd, Int.reduceToNat, c0', x1', x2', n9']); repeat ((first | refine AW.seq ?_ | refine AW.region env_ok ?_ | refine AW.region envR_ok ?_ | refine AW.skip ?_ | refine AW.block ?_ | refine AW.exit ?_ | refine AW.ret ?_ | (refine AW.cond (b := true) ?_ ?_; simp only [ev, upd, ↓reduceIte, Nat.reduceEqDiff]; rw [if_pos rfl]) | (refine AW.cond (b := false) ?_ ?_; simp only [ev, upd, ↓reduceIte, Nat.reduceEqDiff]; rw [if_neg Bool.false_ne_true]) | fail) <;> try simp only [go_sem, ↓reduceIte, reduceCtorEq, Nat.reduceLT, Nat.reduceEqDiff, Nat.reduceBEq, Nat.reduceAdd, Nat.reduceMul, Nat.reduceSub, Nat.reduceLeDiff, Int.reduceNeg, Int.reduceLT, Int.reduceLE, Int.reduceEq, Int.reduceAdd, Int.reduceToNat, c0', x1', x2', n9']))
      refine U64_spec hsub (three_2 ..) ?_
      ((try simp only [go_sem, ↓reduceIte, reduceCtorEq, Nat.reduceLT, Nat.reduceEqDiff, Nat.reduceBEq, Nat.reduceAdd, Nat.reduceMul, Nat.reduceSub, Nat.reduceLeDiff, Int.reduceNeg, Int.reduceLT, Int.reduceLE, Int.reduceEq, Int.reduceAdd, Int.reduceToNat]); repeat ((first | refine AW.seq ?_ | refine AW.region env_ok ?_ | refine AW.region envR_ok ?_ | refine AW.skip ?_ | refine AW.block ?_ | refine AW.exit ?_ | refine AW.ret ?_ | (refine AW.cond (b := true) ?_ ?_; simp only [ev, upd, ↓reduceIte, Nat.reduceEqDiff]; rw [if_pos rfl]) | (refine AW.cond (b := false) ?_ ?_; simp only [ev, upd, ↓reduceIte, Nat.reduceEqDiff]; rw [if_neg Bool.false_ne_true]) | fail) <;> try simp only [go_sem, ↓reduceIte, reduceCtorEq, Nat.reduceLT, Nat.reduceEqDiff, Nat.reduceBEq, Nat.reduceAdd, Nat.reduceMul, Nat.reduceSub, Nat.reduceLeDiff, Int.reduceNeg, Int.reduceLT, Int.reduceLE, Int.reduceEq, Int.reduceAdd, Int.reduceToNat]))
      exact .inr h
    · have n9' : ¬ (n : Int) = 9 := by omega
      rw [if_pos (.inr (.inr ⟨x2, n9⟩))] at h
      ((try simp only [go_sem, ↓reduceIte, reduceCtorEq, Nat.reduceLT, Nat.reduceEqDiff, Nat.reduceBEq, Nat.reduceAdd, Nat.reduceMul, Nat.reduceSub, Nat.reduceLeDiff, Int.reduceNeg, Int.reduceLT, Int.reduceLE, Int.reduceEq, Int.reduceAdd, Int.reduceToNat, c0', x1', x2', n9']); repeat ((first | refine AW.seq ?_ | refine AW.region env_ok ?_ | refine AW.region envR_ok ?_ | refine AW.skip ?_ | refine AW.block ?_ | refine AW.exit ?_ | refine AW.ret ?_ | (refine AW.cond (b := true) ?_ ?_; simp only [ev, upd, ↓reduceIte, Nat.reduceEqDiff]; rw [if_pos rfl]) | (refine AW.cond (b := false) ?_ ?_; simp only [ev, upd, ↓reduceIte, Nat.reduceEqDiff]; rw [if_neg Bool.false_ne_true]) | fail) <;> try simp only [go_sem, ↓reduceIte, reduceCtorEq, Nat.reduceLT, Nat.reduceEqDiff, Nat.reduceBEq, Nat.reduceAdd, Nat.reduceMul, Nat.reduceSub, Nat.reduceLeDiff, Int.reduceNeg, Int.reduceLT, Int.reduceLE, Int.reduceEq, Int.reduceAdd, Int.reduceToNat, c0', x1', x2', n9']))
      refine Fail_spec (three_0 ..) ?_
      ((try simp only [go_sem, ↓reduceIte, reduceCtorEq, Nat.reduceLT, Nat.reduceEqDiff, Nat.reduceBEq, Nat.reduceAdd, Nat.reduceMul, Nat.reduceSub, Nat.reduceLeDiff, Int.reduceNeg, Int.reduceLT, Int.reduceLE, Int.reduceEq, Int.reduceAdd, Int.reduceToNat]); repeat ((first | refine AW.seq ?_ | refine AW.region env_ok ?_ | refine AW.region envR_ok ?_ | refine AW.skip ?_ | refine AW.block ?_ | refine AW.exit ?_ | refine AW.ret ?_ | (refine AW.cond (b := true) ?_ ?_; simp only [ev, upd, ↓reduceIte, Nat.reduceEqDiff]; rw [if_pos rfl]) | (refine AW.cond (b := false) ?_ ?_; simp only [ev, upd, ↓reduceIte, Nat.reduceEqDiff]; rw [if_neg Bool.false_ne_true]) | fail) <;> try simp only [go_sem, ↓reduceIte, reduceCtorEq, Nat.reduceLT, Nat.reduceEqDiff, Nat.reduceBEq, Nat.reduceAdd, Nat.reduceMul, Nat.reduceSub, Nat.reduceLeDiff, Int.reduceNeg, Int.reduceLT, Int.reduceLE, Int.reduceEq, Int.reduceAdd, Int.reduceToNat]))
      exact .inr h
  have x2' : ¬ (x.toNat : Int) = 2 := by omega
  rw [if_neg (by omega), if_neg x1, if_neg x2] at h
  by_cases x4 : x.toNat = 4
  · have x4' : (x.toNat : Int) = 4 := by omega
    rw [if_pos x4] at h
    ((try simp only [go_sem, ↓reduceIte, reduceCtorEq, Nat.reduceLT, Nat.reduceEqDiff, Nat.reduceBEq, Nat.reduceAdd, Nat.reduceMul, Nat.reduceSub, Nat.reduceLeDiff, Int.reduceNeg, Int.reduceLT, Int.reduceLE, Int.reduceEq, Int.reduceAdd, Int.reduceToNat, c0', x1', x2', x4']); repeat ((first | refine AW.seq ?_ | refine AW.region env_ok ?_ | refine AW.region envR_ok ?_ | refine AW.skip ?_ | refine AW.block ?_ | refine AW.exit ?_ | refine AW.ret ?_ | (refine AW.cond (b := true) ?_ ?_; simp only [ev, upd, ↓reduceIte, Nat.reduceEqDiff]; rw [if_pos rfl]) | (refine AW.cond (b := false) ?_ ?_; simp only [ev, upd, ↓reduceIte, Nat.reduceEqDiff]; rw [if_neg Bool.false_ne_true]) | fail) <;> try simp only [go_sem, ↓reduceIte, reduceCtorEq, Nat.reduceLT, Nat.reduceEqDiff, Nat.reduceBEq, Nat.reduceAdd, Nat.reduceMul, Nat.reduceSub, Nat.reduceLeDiff, Int.reduceNeg, Int.reduceLT, Int.reduceLE, Int.reduceEq, Int.reduceAdd, Int.reduceToNat, c0', x1', x2', x4']))
    refine U_spec hsub (three_2 ..) ?_
    ((try simp only [go_sem, ↓reduceIte, reduceCtorEq, Nat.reduceLT, Nat.reduceEqDiff, Nat.reduceBEq, Nat.reduceAdd, Nat.reduceMul, Nat.reduceSub, Nat.reduceLeDiff, Int.reduceNeg, Int.reduceLT, Int.reduceLE, Int.reduceEq, Int.reduceAdd, Int.reduceToNat]); repeat ((first | refine AW.seq ?_ | refine AW.region env_ok ?_ | refine AW.region envR_ok ?_ | refine AW.skip ?_ | refine AW.block ?_ | refine AW.exit ?_ | refine AW.ret ?_ | (refine AW.cond (b := true) ?_ ?_; simp only [ev, upd, ↓reduceIte, Nat.reduceEqDiff]; rw [if_pos rfl]) | (refine AW.cond (b := false) ?_ ?_; simp only [ev, upd, ↓reduceIte, Nat.reduceEqDiff]; rw [if_neg Bool.false_ne_true]) | fail) <;> try simp only [go_sem, ↓reduceIte, reduceCtorEq, Nat.reduceLT, Nat.reduceEqDiff, Nat.reduceBEq, Nat.reduceAdd, Nat.reduceMul, Nat.reduceSub, Nat.reduceLeDiff, Int.reduceNeg, Int.reduceLT, Int.reduceLE, Int.reduceEq, Int.reduceAdd, Int.reduceToNat]))
    refine End_spec hsub.uleb (three_2 ..) ?_
    by_cases es : (CS.mk (x :: b') 1 0).uleb.2.stop = 0
    · rw [if_neg (by simpa using es)] at h
      unfold CS.stop at es
      rw [es]
      ((try simp only [go_sem, ↓reduceIte, reduceCtorEq, Nat.reduceLT, Nat.reduceEqDiff, Nat.reduceBEq, Nat.reduceAdd, Nat.reduceMul, Nat.reduceSub, Nat.reduceLeDiff, Int.reduceNeg, Int.reduceLT, Int.reduceLE, Int.reduceEq, Int.reduceAdd, Int.reduceToNat]); repeat ((first | refine AW.seq ?_ | refine AW.region env_ok ?_ | refine AW.region envR_ok ?_ | refine AW.skip ?_ | refine AW.block ?_ | refine AW.exit ?_ | refine AW.ret ?_ | (refine AW.cond (b := true) ?_ ?_; simp only [ev, upd, ↓reduceIte, Nat.reduceEqDiff]; rw [if_pos rfl]) | (refine AW.cond (b := false) ?_ ?_; simp only [ev, upd, ↓reduceIte, Nat.reduceEqDiff]; rw [if_neg Bool.false_ne_true]) | fail) <;> try simp only [go_sem, ↓reduceIte, reduceCtorEq, Nat.reduceLT, Nat.reduceEqDiff, Nat.reduceBEq, Nat.reduceAdd, Nat.reduceMul, Nat.reduceSub, Nat.reduceLeDiff, Int.reduceNeg, Int.reduceLT, Int.reduceLE, Int.reduceEq, Int.reduceAdd, Int.reduceToNat]))
      exact .inr h
    · rw [if_pos es] at h
      unfold CS.stop at es
      ((try simp only [go_sem, ↓reduceIte, reduceCtorEq, Nat.reduceLT, Nat.reduceEqDiff, Nat.reduceBEq, Nat.reduceAdd, Nat.reduceMul, Nat.reduceSub, Nat.reduceLeDiff, Int.reduceNeg, Int.reduceLT, Int.reduceLE, Int.reduceEq, Int.reduceAdd, Int.reduceToNat, es]); repeat ((first | refine AW.seq ?_ | refine AW.region env_ok ?_ | refine AW.region envR_ok ?_ | refine AW.skip ?_ | refine AW.block ?_ | refine AW.exit ?_ | refine AW.ret ?_ | (refine AW.cond (b := true) ?_ ?_; simp only [ev, upd, ↓reduceIte, Nat.reduceEqDiff]; rw [if_pos rfl]) | (refine AW.cond (b := false) ?_ ?_; simp only [ev, upd, ↓reduceIte, Nat.reduceEqDiff]; rw [if_neg Bool.false_ne_true]) | fail) <;> try simp only [go_sem, ↓reduceIte, reduceCtorEq, Nat.reduceLT, Nat.reduceEqDiff, Nat.reduceBEq, Nat.reduceAdd, Nat.reduceMul, Nat.reduceSub, Nat.reduceLeDiff, Int.reduceNeg, Int.reduceLT, Int.reduceLE, Int.reduceEq, Int.reduceAdd, Int.reduceToNat, es]))
      refine Fail_spec (three_0 ..) ?_
      ((try simp only [go_sem, ↓reduceIte, reduceCtorEq, Nat.reduceLT, Nat.reduceEqDiff, Nat.reduceBEq, Nat.reduceAdd, Nat.reduceMul, Nat.reduceSub, Nat.reduceLeDiff, Int.reduceNeg, Int.reduceLT, Int.reduceLE, Int.reduceEq, Int.reduceAdd, Int.reduceToNat]); repeat ((first | refine AW.seq ?_ | refine AW.region env_ok ?_ | refine AW.region envR_ok ?_ | refine AW.skip ?_ | refine AW.block ?_ | refine AW.exit ?_ | refine AW.ret ?_ | (refine AW.cond (b := true) ?_ ?_; simp only [ev, upd, ↓reduceIte, Nat.reduceEqDiff]; rw [if_pos rfl]) | (refine AW.cond (b := false) ?_ ?_; simp only [ev, upd, ↓reduceIte, Nat.reduceEqDiff]; rw [if_neg Bool.false_ne_true]) | fail) <;> try simp only [go_sem, ↓reduceIte, reduceCtorEq, Nat.reduceLT, Nat.reduceEqDiff, Nat.reduceBEq, Nat.reduceAdd, Nat.reduceMul, Nat.reduceSub, Nat.reduceLeDiff, Int.reduceNeg, Int.reduceLT, Int.reduceLE, Int.reduceEq, Int.reduceAdd, Int.reduceToNat]))
      exact .inr h
  · have x4' : ¬ (x.toNat : Int) = 4 := by omega
    rw [if_neg x4] at h
    ((try simp only [go_sem, ↓reduceIte, reduceCtorEq, Nat.reduceLT, Nat.reduceEqDiff, Nat.reduceBEq, Nat.reduceAdd, Nat.reduceMul, Nat.reduceSub, Nat.reduceLeDiff, Int.reduceNeg, Int.reduceLT, Int.reduceLE, Int.reduceEq, Int.reduceAdd, Int.reduceToNat, c0', x1', x2', x4']); repeat ((first | refine AW.seq ?_ | refine AW.region env_ok ?_ | refine AW.region envR_ok ?_ | refine AW.skip ?_ | refine AW.block ?_ | refine AW.exit ?_ | refine AW.ret ?_ | (refine AW.cond (b := true) ?_ ?_; simp only [ev, upd, ↓reduceIte, Nat.reduceEqDiff]; rw [if_pos rfl]) | (refine AW.cond (b := false) ?_ ?_; simp only [ev, upd, ↓reduceIte, Nat.reduceEqDiff]; rw [if_neg Bool.false_ne_true]) | fail) <;> try simp only [go_sem, ↓reduceIte, reduceCtorEq, Nat.reduceLT, Nat.reduceEqDiff, Nat.reduceBEq, Nat.reduceAdd, Nat.reduceMul, Nat.reduceSub, Nat.reduceLeDiff, Int.reduceNeg, Int.reduceLT, Int.reduceLE, Int.reduceEq, Int.reduceAdd, Int.reduceToNat, c0', x1', x2', x4']))
    exact .inr h
end
end Go.Ab
end
