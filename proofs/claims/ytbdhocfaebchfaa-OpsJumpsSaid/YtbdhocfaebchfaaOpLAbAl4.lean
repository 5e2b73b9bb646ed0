/- Abstract values and rules for them, proved sound over the model. -/
import Derived.Test.YtbdhocfaebchfaaOpLAbAl3
set_option linter.all false
set_option linter.unusedSimpArgs false
set_option linter.unusedVariables false
set_option linter.unnecessarySimpa false
section
/- Operations one behind the other, with such slots. -/
namespace Go.Ab
open V
variable [Glob]
set_option linter.unusedSimpArgs false
set_option linter.unusedVariables false
set_option linter.unusedSectionVars false

section
variable {E : Env} (hE : E.Ok) {fr : Fr} {g : Ghost} {vs : List (V D)} {Hs : List (Ob D)} {w : World} {st : St} {a : Act} {m : Tmp → Bool}
include hE

omit hE in
theorem es_of_uni {es k i : Nat} {xs' : List A} {x : A} (hU : Uni es xs' = true) (hx : xs'[i]? = some x) : ∀ (xs : List (V D)) (dd : D), Mem g w (.sl xs (some k) dd) → xs' = xs.map er → dd.es = es := by
  rintro xs dd hm rfl
  simp only [Mem] at hm
  rw [List.getElem?_map] at hx
  obtain ⟨y, hy, rfl⟩ := Option.map_eq_some_iff.1 hx
  have h1 := Uni_get hm.2.1 (List.mem_of_getElem? hy)
  rw [er_Uni] at hU
  have h2 := Uni_get hU (List.mem_of_getElem? hy)
  omega

theorem alias_sound (hR : Rel fr g vs Hs w) (hA : At fr E.n g.φ st vs Hs a) {al : List Al} (hAl : ∀ x ∈ al, AlOk a w x) {o : Oper} {r : List Al × St} (h : aliasA E m al o st = some r) : AliasOk E fr a w o r.1 r.2 := by
  obtain ⟨dst, op, ty, pos, aft, gd⟩ := o
  unfold aliasA at h
  simp only at h
  split at h
  · -- move
    split at h
    · rename_i hc
      split at h
      · rename_i r0 ho
        simp only [Option.some.injEq] at h; subst h
        exact move_alias hE hR hA hAl hc.2.1 hc.2.2 ho
      · cases h
    · cases h
  · -- load
    split at h
    · rename_i hg
      split at h
      · split at h
        · rename_i hpd
          split at h
          · rename_i e r0 hT ho
            simp only [Option.some.injEq] at h; subst h
            exact load_alias hE hR hA hAl hg hpd hT ho
          · cases h
        · cases h
      · split at h
        · rename_i own es idx off hh
          split at h
          · rename_i xs k u ho hu
            split at h
            · rename_i x hx
              split at h
              · rename_i v hp
                split at h
                · rename_i hc
                  simp only [Option.some.injEq] at h; subst h
                  exact loadel_alias hE hR hA hAl hh ho hu hx hp hc.1 hg (es_of_uni hc.2 hx)
                · cases h
              · cases h
            · cases h
          · cases h
        · cases h
    · cases h
  · -- len
    rename_i args ts d
    split at h
    · rename_i t ty' ha ht
      obtain rfl : args = #[.tmp t] := by apply Array.ext'; simpa using ha
      obtain rfl : ts = #[ty'] := by apply Array.ext'; simpa using ht
      split at h
      · rename_i own hh
        split at h
        · rename_i xs k e ho hT
          split at h
          · rename_i hg
            simp only [Option.some.injEq] at h; subst h
            exact len_alias hE hR hA hAl hh hg hT ho
          · cases h
        · cases h
      · cases h
    · cases h
  · -- indexAddr
    split at h
    · rename_i own hh
      split at h
      · rename_i xs k e ik n ho hT hi
        split at h
        · rename_i u hu
          split at h
          · rename_i hc
            simp only [Option.some.injEq] at h; subst h
            exact index_alias hE hR hA hAl hh ho hT hi hu hc.1 hc.2.1 hc.2.2.1 hc.2.2.2
          · cases h
        · cases h
      · cases h
    · cases h
  · -- fieldAddr
    split at h
    · rename_i own es idx off hh
      split at h
      · rename_i o' u hf
        split at h
        · rename_i hc
          simp only [Option.some.injEq] at h; subst h
          exact field_alias hE hR hA hAl hh hf hc.1 hc.2
        · cases h
      · cases h
    · cases h
  · -- store
    split at h
    · rename_i own es idx off hh
      split at h
      · rename_i xs k u ho hu
        split at h
        · rename_i y hy
          split at h
          · rename_i hc
            obtain ⟨c1, c2, c3, c4, c5, c6, c7, c8⟩ := hc
            simp only [Option.some.injEq] at h; subst h
            exact storeel_alias hE hR hA hAl hh ho hu hy c1 c2 c3 c4 c5 c6 c7 (es_of_uni c8 hy)
          · cases h
        · cases h
      · cases h
    · cases h
  · cases h

theorem wanted_sound {ops : Array Oper} {o : Oper} (hR : Rel fr g vs Hs w) (hA : At fr E.n g.φ st vs Hs a) {b : Bool} (hb : wantedA ops o st = some b) : Region.wanted o (yielded ops a.tmps) = b := by
  unfold wantedA at hb
  unfold Region.wanted
  split at hb
  · rename_i hg; simp only [Option.some.injEq] at hb; subst hb; rw [hg]
  · rename_i j want hg
    rw [hg]
    simp only
    split at hb
    · rename_i t ht
      have hy : yielded ops a.tmps j = match a.tmps[t]? with | some (.bool c) => some c | _ => none := by
        unfold yielded; rw [ht]; rfl
      split at hb
      · rename_i c hc
        simp only [Option.some.injEq] at hb; subst hb
        rcases hA.tmp_get t with ⟨v, hv, hσ, _⟩ | ⟨hv, hσ, _⟩
        · rw [hc] at hσ
          have := er_bool hσ.symm
          subst this
          have hy2 : yielded ops a.tmps j = some c := by
            rw [hy, tmps_get hA, hv]; rfl
          rw [hy2]
          cases c <;> cases want <;> rfl
        · rw [hc] at hσ; simp at hσ
      · rename_i hu
        simp only [Option.some.injEq] at hb; subst hb
        have hy2 : yielded ops a.tmps j = none := by
          rw [hy, tmps_get hA]
          rcases hA.tmp_get t with ⟨v, hv, hσ, _⟩ | ⟨hv, hσ, _⟩
          · rw [hu] at hσ
            have hm : Mem g w v := hR.mem v (List.mem_of_getElem? hv)
            cases v <;> simp [V.er] at hσ
            rename_i d
            simp only [Mem] at hm
            rw [hv]
            simp only [Option.map_some, V.conc]
            split
            · rename_i b hb; exact absurd (Option.some.inj hb) (hm b)
            · rfl
          · rw [hv]; rfl
        rw [hy2]; rfl
      · simp at hb
    · simp at hb

theorem pureM_sound (hR : Rel fr g vs Hs w) (hA : At fr E.n g.φ st vs Hs a) {o : Oper} {v : A} (h : pureM E o.op st = some v) :
    ∃ F sr vs' Hs', Rel fr ⟨g.φ, F⟩ (sr :: vs') Hs' w ∧ At fr E.n g.φ st vs' Hs' a ∧ sr.er = v ∧ (execOp a.eval o).run E.P w = .ok (.value (V.conc g.φ sr)) w := by
  obtain ⟨dst, op, ty, pos, aft, gd⟩ := o
  have hmv : ∀ x, okv (ev st x) = some v → ∃ sr, Rel fr ⟨g.φ, g.F⟩ (sr :: vs) Hs w ∧ sr.er = v ∧ a.eval x = V.conc g.φ sr := by
    intro x hx
    obtain ⟨rfl, hf⟩ := okv_some hx
    obtain ⟨h1, h2⟩ := hA.mem_sev hR x
    rw [hA.ev_eq, er_flagless] at hf
    exact ⟨sev vs a x, hR.cons h1 h2 (fl_nil hf), (hA.ev_eq x).symm, hA.conc_eq x⟩
  unfold pureM at h
  simp only at h
  split at h
  · rename_i x
    obtain ⟨sr, k1, k2, k3⟩ := hmv x h
    exact ⟨g.F, sr, vs, Hs, k1, hA, k2, by rw [← k3]; rfl⟩
  · rename_i x
    obtain ⟨sr, k1, k2, k3⟩ := hmv x h
    exact ⟨g.F, sr, vs, Hs, k1, hA, k2, by rw [← k3]; rfl⟩
  · rename_i t x
    have hq := quiet_op (dst := none) hE h hR hA
    simp only [opA, Option.map_none] at hq
    obtain ⟨F, sr, vs', Hs', k1, k2, k3, k4⟩ := load_sound (pre := []) hE hR hA hq
    refine ⟨F, sr, vs', Hs', k1, k2, k3, ?_⟩
    show (do pure (Next.value (← Go.Instr.loadAt t (a.eval x)))).run E.P w = _
    exact value_run' k4
  · have hp' := h
    rw [hA.ev_fun] at hp'
    obtain ⟨sr, hg, hrun⟩ := pure_sound (N := Hs.length) (s := sev vs a) hE (fun x => hA.mem_sev hR x) hp'
    have hr := hrun dst ty pos aft gd
    rw [← hA.eval_fun] at hr
    exact ⟨g.F, sr, vs, Hs, hR.cons hg.mem hg.low (fl_nil hg.fl), hA, hg.er, hr⟩

theorem awx_sound {ops : Array Oper} {Q : X → St → Prop} : ∀ (l : List Oper) (al : List Al) (st : St) (g : Ghost) (vs : List (V D)) (Hs : List (Ob D)) (a : Act) (w : World),
    awx E m ops l al (Q .normal) st → Rel fr g vs Hs w → At fr E.n g.φ st vs Hs a → (∀ x ∈ al, AlOk a w x) → wpListIn (fen fr.rd) 0 E.P ops (Snd E fr Q) l a w := by
  intro l
  induction l with
  | nil => intro al st g vs Hs a w h hR hA _; exact ⟨.normal, st, g, vs, Hs, rfl, hR, hA, h⟩
  | cons o l ih =>
    intro al st g vs Hs a w h hR hA hAl
    have hnames : ∀ {dst : Option Tmp}, freeO al dst = true → ∀ x ∈ al, (match dst with | some d => !(x.names).contains d | none => true) = true := by
      intro dst hf x hx
      cases dst with
      | none => rfl
      | some d => simp only [freeO, freeD, List.all_eq_true] at hf; exact hf x hx
    have hkeep : ∀ {a1 : Act} {w1 : World} {v : Value}, a1.tmps = (a.put o.dst v).tmps → freeO al o.dst = true → al.all (fun z => !z.isVia) = true → ∀ x ∈ al, AlOk a1 w1 x := by
      intro a1 w1 v ht hf hv x hx
      rw [List.all_eq_true] at hv
      refine (hAl x hx).tmps (by simpa using hv x hx) ?_
      intro t htn
      rw [ht]
      have := hnames hf x hx
      cases hd : o.dst with
      | none => rfl
      | some d =>
        rw [hd] at this
        simp only [Bool.not_eq_true', List.contains_eq_mem, decide_eq_false_iff_not] at this
        exact put_tmps fun e => this (e ▸ htn)
    unfold awx at h
    unfold wpListIn
    split at h
    · rename_i hwant
      rw [if_pos (wanted_sound hE hR hA hwant)]
      split at h
      · rename_i r hal
        obtain ⟨v, g', vs', Hs', w', hrun, hR', hA', hAl'⟩ := alias_sound hE hR hA hAl hal
        refine wpIn_of (fun c e => by simp [aliasA, e] at hal) ?_
        rcases hrun with hrun | ⟨hrun, rfl⟩
        · rw [hrun, Oper.uponIn_value]; exact ih _ _ g' vs' Hs' _ w' h hR' hA' hAl'
        · rw [hrun, Oper.uponIn_skip]; exact ih _ _ g' vs' Hs' _ w' h hR' hA' hAl'
      · split at h
        · rename_i hf
          split at h
          · rename_i hv
            have hwp := awl_sound hE (fr := fr) (Q := fun _ st1 => awx E m ops l al (Q .normal) st1) [o] st g vs Hs a w h hR hA
            unfold wpListIn at hwp
            rw [if_pos (wanted_sound hE hR hA hwant)] at hwp
            refine wp_exit_free (Q := fun _ st1 => awx E m ops l al (Q .normal) st1) (Oper.wpIn_mono ?_ (wp_frame hwp))
            rintro a1 w1 ⟨⟨x, st1, g1, vs1, Hs1, _, h2, h3, h4⟩, v, ht⟩
            exact ih al st1 g1 vs1 Hs1 a1 w1 h4 h2 h3 (hkeep ht hf hv)
          · split at h
            · exact h.elim
            · rename_i v op hp hne
              split at h
              · rename_i st1 hput
                obtain ⟨F, sr, vs1, Hs1, hR1, hA1, her, hr⟩ := pureM_sound hE hR hA hp
                obtain ⟨F', sr', m1, m2, m3⟩ := frz_sound (E := E) hE (dst := o.dst) hR1
                rw [← her, ← m2] at hput
                obtain ⟨vs2, n1, n2⟩ := put_sound hE m1 hA1 hput
                rw [m3] at n2
                refine wpIn_of (fun c e => by rw [e] at hp; simp [pureM, pureA] at hp) ?_
                rw [show (execOp a.eval o).run E.P w = .ok (.value (V.conc g.φ sr)) w from hr, Oper.uponIn_value]
                exact ih al st1 _ vs2 Hs1 _ w h n1 n2 fun x hx => (hAl x hx).put (hnames hf x hx)
              · exact h.elim
            · exact h.elim
        · exact h.elim
    · rename_i hwant
      rw [if_neg (by rw [wanted_sound hE hR hA hwant]; simp)]
      split at h
      · rename_i hf
        split at h
        · rename_i st1 hput
          have h1 : Rel fr g (ud :: vs) Hs w := hR.cons (by simp [ud, Mem]) rfl rfl
          obtain ⟨vs2, n1, n2⟩ := put_sound hE h1 hA (sr := ud) hput
          exact ⟨fun _ _ => trivial, ih al st1 g vs2 Hs _ w h n1 n2 fun x hx => (hAl x hx).put (hnames hf x hx)⟩
        · exact h.elim
      · exact h.elim
    · exact h.elim
end

/-- A statement in which slots bear a copy of a slice's head, or the address of an element. -/
theorem AW.regionX {E : Env} (hE : E.Ok) {id : Nat} {l : List Oper} {Q : X → St → Prop} {st : St} (m : Tmp → Bool) (h : awx E m l.toArray l [] (Q .normal) st) : AW E (.region id l.toArray false) Q st := by
  intro fr g vs Hs a w _ hR hA
  exact Code.wpIn_mono Snd.snx <| wpIn_region_lit (awx_sound hE (fr := fr) (m := m) (ops := l.toArray) (Q := Q) l [] st g vs Hs a w h hR hA (by simp))
/-- What a function answers may be taken as a copy that may do nothing more. -/
theorem AC.strip {E : Env} (hE : E.Ok) {f : FuncId} {args : List A} {H : Heap} {Q : A → Heap → Prop} (h : AC E.P f args H (fun r H' => Q r.strip H')) : AC E.P f args H Q := by
  intro fr g as Hs w hR h1 h2
  have hc : ∀ e w1, CPost fr (fun r H' => Q r.strip H') e w1 → CPost fr Q e w1 := by
    rintro e w1 ⟨g', r, Hs', rfl, hR', hq⟩
    obtain ⟨F, hF⟩ := hR'.copy (t := 0) (v := r) rfl
    simp only [List.set_cons_zero] at hF
    refine ⟨⟨g'.φ, F⟩, r.strip, Hs', ?_, ?_, ?_⟩
    · rw [conc_strip]
    · exact hF.weaken (fun v hv => hF.mem v (by simp only [List.mem_cons] at hv ⊢; rcases hv with rfl | hv <;> simp [*])) (fun v hv => hF.low v (by simp only [List.mem_cons] at hv ⊢; rcases hv with rfl | hv <;> simp [*]))
        (fun b => by simp only [flL, List.count_append]; omega)
    · rw [er_strip]; exact hq
  have := h fr g as Hs w hR h1 h2
  split at this
  · exact this.mono hc
  · exact hc _ _ this
  · exact this.elim
def aliK (x : Option (List Al × St)) (K : List Al → St → Prop) (p : Prop) : Prop := match x with | some r => K r.1 r.2 | none => p
def pureK (E : Env) (o : Oper) (st : St) (K : St → Prop) : Prop :=
  match pureM E o.op st, o.op with
  | _, .call { callee := .value _, args := _, argTypes := _ } => False
  | some v, _ => optK (put E o.dst (frzA E o.dst v) st) (HoldF K)
  | none, _ => False
section
omit [Glob]
def HoldG (K : List Al → St → Prop) : List Al → St → Prop := K
@[congr] theorem HoldG_cg {K : List Al → St → Prop} {dm : Prop} (dd : Dum = dm) : HoldG K = HoldG K := rfl
theorem aliK_s {r : List Al × St} {K : List Al → St → Prop} {p : Prop} : aliK (some r) (HoldG K) p = K r.1 r.2 := rfl
theorem aliK_n {K : List Al → St → Prop} {p : Prop} : aliK none K (Hold p) = p := rfl
end
@[congr] theorem pureK_cg {E : Env} {o : Oper} {st : St} {K : St → Prop} {dm : Prop} (dd : Dum = dm) : pureK E o st K = pureK E o st K := rfl
theorem awx_nil {E : Env} {m : Tmp → Bool} {ops : Array Oper} {al : List Al} {Q : St → Prop} {st : St} : awx E m ops [] al Q st = Q st := rfl
theorem awx_cons {E : Env} {m : Tmp → Bool} {ops : Array Oper} {o : Oper} {l : List Oper} {al : List Al} {Q : St → Prop} {st : St} :
    awx E m ops (o :: l) al Q st = wantK (wantedA ops o st)
      (Hold (aliK (aliasA E m al o st) (HoldG fun al' st' => awx E m ops l al' Q st')
        (Hold (if freeO al o.dst = true then (if al.all (fun z => !z.isVia) = true then awl E ops [o] (fun st' => awx E m ops l al Q st') st else pureK E o st (fun st' => awx E m ops l al Q st')) else False))))
      (Hold (if freeO al o.dst = true then optK (put E o.dst (.undef ()) st) (HoldF fun st' => awx E m ops l al Q st') else False)) := by
  rw [awx]
  cases wantedA ops o st with
  | none => rfl
  | some b =>
    cases b with
    | false => rfl
    | true => rfl
@[congr] theorem awx_cg {E : Env} {m : Tmp → Bool} {ops : Array Oper} {l : List Oper} {x y : List Al} {Q : St → Prop} {s t : St} {dm : Prop} (dd : Dum = dm) (h : Idw x = y) (h' : Idw s = t) : awx E m ops l x Q s = awx E m ops l y Q t := by rw [Idw_eq] at h h'; rw [h, h']
attribute [go_sem] List.contains_cons List.contains_nil aliK_s aliK_n pureK awx_nil awx_cons pureM quietA aliasA hdrOf elOf freeD freeO goodD setU ownGet ownSet ownLow elPut isAgg Ow.name Al.names Al.isVia Ow.isVia
end Go.Ab
end
