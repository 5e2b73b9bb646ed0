/- Abstract values and rules for them, proved sound over the model. -/
import Derived.Test.YtbdhocfaebchfaaOpLAbStep
set_option linter.all false
set_option linter.unusedSimpArgs false
set_option linter.unusedVariables false
set_option linter.unnecessarySimpa false
section
/- A copy of a value is handed out: what the array held till now never changes again. -/
namespace Go.Ab
open V
set_option linter.unusedSimpArgs false

theorem strip_fl (v : V D) : v.strip.fl = [] := V.fl_nil (V.strip_flagless v)

def BorrowOk (w : World) (v : V D) : Prop := ∀ g : Ghost, Mem g w v → v.fl.Nodup →
  ∃ F, (∀ b, g.F b ≤ F b) ∧ (∀ b, b ∉ v.fl → F b = g.F b) ∧ Mem ⟨g.φ, F⟩ w v.share ∧ Mem ⟨g.φ, F⟩ w v.strip

theorem borrow_list (w : World) : ∀ l : List (V D), (∀ v ∈ l, BorrowOk w v) → ∀ g : Ghost, (∀ v ∈ l, Mem g w v) → (flL l).Nodup →
    ∃ F, (∀ b, g.F b ≤ F b) ∧ (∀ b, b ∉ flL l → F b = g.F b) ∧ ∀ v ∈ l, Mem ⟨g.φ, F⟩ w v.share ∧ Mem ⟨g.φ, F⟩ w v.strip := by
  intro l
  induction l with
  | nil => intro _ g _ _; exact ⟨g.F, fun _ => Nat.le_refl _, fun _ _ => rfl, by simp⟩
  | cons v l ih =>
    intro hl g hm hn
    simp only [flL, List.nodup_append] at hn
    obtain ⟨F1, h1, h2, h3, h4⟩ := hl v (by simp) g (hm v (by simp)) hn.1
    have hm1 : ∀ x ∈ l, Mem ⟨g.φ, F1⟩ w x := fun x hx => by
      refine Mem_F h1 x (fun b hb => h2 b ?_) (hm x (by simp [hx]))
      intro hbv
      exact hn.2.2 b hbv b (by rw [flL_flatMap]; exact List.mem_flatMap.2 ⟨x, hx, hb⟩) rfl
    obtain ⟨F2, k1, k2, k3⟩ := ih (fun x hx => hl x (by simp [hx])) ⟨g.φ, F1⟩ hm1 hn.2.1
    refine ⟨F2, fun b => Nat.le_trans (h1 b) (k1 b), fun b hb => ?_, fun x hx => ?_⟩
    · simp only [flL, List.mem_append, not_or] at hb
      exact (k2 b hb.2).trans (h2 b hb.1)
    · rcases List.mem_cons.1 hx with rfl | hx
      · have hd : ∀ b ∈ x.fl, F2 b = F1 b := fun b hb => k2 b (fun hb' => hn.2.2 b hb b hb' rfl)
        exact ⟨Mem_F (g := ⟨g.φ, F1⟩) k1 _ (by rw [share_fl]; exact hd) h3, Mem_F (g := ⟨g.φ, F1⟩) k1 _ (by rw [strip_fl]; simp) h4⟩
      · exact k3 x hx

theorem borrow (w : World) (v : V D) : BorrowOk w v := by
  induction v using ind with
  | hsl xs own d ih =>
    intro g hm hn
    simp only [Mem, MemL_all] at hm
    obtain ⟨hm, hU, he, hc, hs⟩ := hm
    simp only [fl, List.nodup_append] at hn
    obtain ⟨F1, h1, h2, h3⟩ := borrow_list w xs ih g hm hn.2.1
    cases own with
    | none =>
      refine ⟨F1, h1, fun b hb => h2 b (by simpa [fl] using hb), ?_, ?_⟩
      · simp only [share]
        have hfl : flL xs = [] := by
          cases hd : d.a with
          | none => rw [hd] at hs; rw [hs.1]; rfl
          | some p => rw [hd] at hs; exact flL_nil hs.2.1
        refine Mem_F h1 (.sl xs none d) (by simp [fl, hfl]) ?_
        simp only [Mem, MemL_all]; exact ⟨hm, hU, he, hc, hs⟩
      · simp only [strip, Mem, MemL_all, stripL_map, List.mem_map]
        refine ⟨fun y ⟨x, hx, e⟩ => e ▸ (h3 x hx).2, ?_⟩
        refine ⟨by rw [strip_Uni]; exact hU, he, by simpa using hc, ?_⟩
        cases hd : d.a with
        | none => rw [hd] at hs; simp [hs.1, hs.2]
        | some p =>
          obtain ⟨b, o⟩ := p
          rw [hd] at hs
          simp only at hs ⊢
          refine ⟨?_, ?_, ?_⟩
          · intro j c hj
            rw [strip_flat, List.getElem?_map] at hj
            obtain ⟨y, hy, rfl⟩ := Option.map_eq_some_iff.1 hj
            obtain ⟨a1, a2⟩ := hs.1 j y hy
            exact ⟨by rw [strip_solid]; exact a1, by rw [conc_strip]; exact a2⟩
          · rw [flaglessL_all]; simp only [List.all_eq_true, List.mem_map]; rintro _ ⟨x, _, rfl⟩; exact strip_flagless x
          · exact hs.2.2.imp (by simp) fun h => by simpa using Nat.le_trans h (h1 b)
    | some k =>
      cases hd : d.a with
      | none =>
        rw [hd] at hs
        obtain ⟨rfl, hcap⟩ := hs
        refine ⟨F1, h1, fun b hb => h2 b (by simp [flL]), ?_, ?_⟩
        · simp [share, shareL, Mem, MemL, SlOk, hd, hcap, he, Uni]
        · simp [strip, stripL, Mem, MemL, SlOk, hd, hcap, he, Uni]
      | some p =>
        obtain ⟨b, o⟩ := p
        rw [hd] at hs
        simp only at hs
        obtain ⟨hca, hk, ho0, hFb, hcap, hown⟩ := hs
        have hbx : b ∉ flL xs := fun hb => by
          have := hn.2.2 b (by simp [hd]) b hb
          exact this rfl
        let F2 : Nat → Nat := fun x => if x = b then o + xs.length * d.es else F1 x
        have hF2b : F2 b = o + xs.length * d.es := by simp [F2]
        have hF2n : ∀ x, x ≠ b → F2 x = F1 x := fun x hx => by simp [F2, hx]
        have h12 : ∀ x, F1 x ≤ F2 x := fun x => by
          by_cases hx : x = b
          · subst hx; rw [hF2b, h2 x hbx, hFb]
            have := Nat.mul_le_mul_right d.es hk; omega
          · rw [hF2n x hx]; exact Nat.le_refl _
        have h3' : ∀ x ∈ xs, Mem ⟨g.φ, F2⟩ w x.share ∧ Mem ⟨g.φ, F2⟩ w x.strip := fun x hx => by
          refine ⟨Mem_F (g := ⟨g.φ, F1⟩) h12 _ (fun c hcf => hF2n c ?_) (h3 x hx).1, Mem_F (g := ⟨g.φ, F1⟩) h12 _ (by rw [strip_fl]; simp) (h3 x hx).2⟩
          rw [share_fl] at hcf
          rintro rfl
          exact hbx (by rw [flL_flatMap]; exact List.mem_flatMap.2 ⟨x, hx, hcf⟩)
        refine ⟨F2, fun x => Nat.le_trans (h1 x) (h12 x), fun x hx => ?_, ?_, ?_⟩
        · simp only [fl, List.mem_append, not_or] at hx
          rw [hF2n x (by rintro rfl; simp [hd] at hx), h2 x hx.2]
        · simp only [share, Mem, MemL_all, shareL_map, List.mem_map]
          refine ⟨fun y ⟨x, hx, e⟩ => e ▸ (h3' x hx).1, by rw [share_Uni]; exact hU, he, by simpa using hc, ?_⟩
          rw [hd]
          simp only [List.length_map]
          refine ⟨?_, Nat.le_refl _, ho0, hF2b, by simpa using hcap, hown⟩
          intro j c hj
          rw [share_flat, List.getElem?_map] at hj
          obtain ⟨y, hy, rfl⟩ := Option.map_eq_some_iff.1 hj
          obtain ⟨a1, a2⟩ := hca j y hy
          exact ⟨by rw [share_solid]; exact a1, by rw [conc_share]; exact a2⟩
        · simp only [strip, Mem, MemL_all, stripL_map, List.mem_map]
          refine ⟨fun y ⟨x, hx, e⟩ => e ▸ (h3' x hx).2, by rw [strip_Uni]; exact hU, he, by simpa using hc, ?_⟩
          rw [hd]
          simp only [List.length_map]
          refine ⟨?_, ?_, .inr (by rw [hF2b]; exact Nat.le_refl _)⟩
          · intro j c hj
            rw [strip_flat, List.getElem?_map] at hj
            obtain ⟨y, hy, rfl⟩ := Option.map_eq_some_iff.1 hj
            obtain ⟨a1, a2⟩ := hca j y hy
            exact ⟨by rw [strip_solid]; exact a1, by rw [conc_strip]; exact a2⟩
          · rw [flaglessL_all]; simp only [List.all_eq_true, List.mem_map]; rintro _ ⟨x, _, rfl⟩; exact strip_flagless x
  | hrd cs d ih =>
    intro g hm hn
    simp only [Mem, MemL_all] at hm
    obtain ⟨hm, hfl, b, o, hd, hca, hle⟩ := hm
    refine ⟨g.F, fun _ => Nat.le_refl _, fun _ _ => rfl, ?_, ?_⟩
    · simp only [share, Mem, MemL_all]; exact ⟨hm, hfl, b, o, hd, hca, hle⟩
    · have : (V.rd cs d).strip = .rd cs d := strip_of_flagless (by simpa [flagless] using hfl)
      rw [this]; simp only [Mem, MemL_all]; exact ⟨hm, hfl, b, o, hd, hca, hle⟩
  | hfn f a b ha hb =>
    intro g hm hn
    simp only [Mem, MemL_all] at hm
    have hab : ∀ v ∈ a ++ b, BorrowOk w v := fun v hv => (List.mem_append.1 hv).elim (ha v) (hb v)
    obtain ⟨F1, h1, h2, h3⟩ := borrow_list w (a ++ b) hab g (fun v hv => (List.mem_append.1 hv).elim (hm.1 v) (hm.2 v)) (by simpa [fl, flL_flatMap] using hn)
    refine ⟨F1, h1, fun b hb => h2 b (by simpa [fl, flL_flatMap] using hb), ?_, ?_⟩
    · simp only [share, Mem, MemL_all, shareL_map, List.mem_map]
      exact ⟨fun y ⟨x, hx, e⟩ => e ▸ (h3 x (by simp [hx])).1, fun y ⟨x, hx, e⟩ => e ▸ (h3 x (by simp [hx])).1⟩
    · simp only [strip, Mem, MemL_all, stripL_map, List.mem_map]
      exact ⟨fun y ⟨x, hx, e⟩ => e ▸ (h3 x (by simp [hx])).2, fun y ⟨x, hx, e⟩ => e ▸ (h3 x (by simp [hx])).2⟩
  | hif t v ih => intro g hm hn; simp only [Mem, fl, share, strip] at hm hn ⊢; exact ih g hm hn
  | hagg cs ih =>
    intro g hm hn
    simp only [Mem, MemL_all] at hm
    obtain ⟨F1, h1, h2, h3⟩ := borrow_list w cs ih g hm hn
    refine ⟨F1, h1, h2, ?_, ?_⟩
    · simp only [share, Mem, MemL_all, shareL_map, List.mem_map]; exact fun y ⟨x, hx, e⟩ => e ▸ (h3 x hx).1
    · simp only [strip, Mem, MemL_all, stripL_map, List.mem_map]; exact fun y ⟨x, hx, e⟩ => e ▸ (h3 x hx).2
  | htup cs ih =>
    intro g hm hn
    simp only [Mem, MemL_all] at hm
    obtain ⟨F1, h1, h2, h3⟩ := borrow_list w cs ih g hm hn
    refine ⟨F1, h1, h2, ?_, ?_⟩
    · simp only [share, Mem, MemL_all, shareL_map, List.mem_map]; exact fun y ⟨x, hx, e⟩ => e ▸ (h3 x hx).1
    · simp only [strip, Mem, MemL_all, stripL_map, List.mem_map]; exact fun y ⟨x, hx, e⟩ => e ▸ (h3 x hx).2
  | hu d => intro g hm _; exact ⟨g.F, fun _ => Nat.le_refl _, fun _ _ => rfl, hm, hm⟩
  | hw p n d => intro g hm _; exact ⟨g.F, fun _ => Nat.le_refl _, fun _ _ => rfl, hm, hm⟩
  | _ => intro g _ _; exact ⟨g.F, fun _ => Nat.le_refl _, fun _ _ => rfl, by simp [share, Mem], by simp [strip, Mem]⟩
end Go.Ab
end
