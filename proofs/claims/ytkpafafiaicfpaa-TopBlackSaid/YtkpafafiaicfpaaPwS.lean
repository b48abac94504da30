/- The abstract logic in which the functions of the program are walked, part 20. No condition. -/
import Derived.Test.YtkpafafiaicfpaaPwR
set_option linter.unusedSimpArgs false
set_option linter.unusedVariables false
set_option linter.unusedSectionVars false
/-! The abstract logic, part S: what a function laid for itself is forgotten. -/
namespace Go.Pw
open Go.RowKit (Below)

section
variable {P : Program} {N : Nat} {w0 : Fr} {ι ι' : Inj} {σ : Tm} {h junk : AH} {w w' : World} {FC : Nat → Code → Option AC}

theorem BlkR.back {n B : Nat} (hd : Dom n ι) (he : Ext n ι ι') {y : Nat × Nat × Option Nat} {k : Blk} {x x' : Option Obj} (h1 : BlkR FC ι B y k x) (h2 : BlkR FC ι' B y k x') : BlkR FC ι B y k x' := by
  cases k with
  | dead => trivial
  | cells rw cs =>
    obtain ⟨_, C, _, _, _, a, _⟩ := h1
    obtain ⟨b0, C', e', fz', b1, b2, b3⟩ := h2
    exact ⟨b0, C', e', fz', b1, fun i v hv => by
      obtain ⟨u, _, u2⟩ := a i v hv
      obtain ⟨v', c1, c2⟩ := b2 i v hv
      exact ⟨v', c1, VR.back hd he u2 c2⟩, b3⟩
  | row s cs =>
    obtain ⟨_, _, C, _, _, _, _, _, a⟩ := h1
    obtain ⟨b0, b1, C', e', K, b2, b3, b4, b5⟩ := h2
    exact ⟨b0, b1, C', e', K, b2, b3, b4, fun i v hv => by
      obtain ⟨u, _, u2⟩ := a i v hv
      obtain ⟨v', c1, c2⟩ := b5 i v hv
      exact ⟨v', c1, VR.back hd he u2 c2⟩⟩
  | map es =>
    obtain ⟨_, _, E, _, a0, a⟩ := h1
    obtain ⟨b0, b1, E', b2, b3, b4⟩ := h2
    exact ⟨b0, b1, E', b2, b3, fun i e k v e1 e2 => by
      have hi : i < E.size := by rw [a0]; exact (List.getElem?_eq_some_iff.1 e2).1
      obtain ⟨_, u1, u2⟩ := a i E[i] k v (Array.getElem?_eq_getElem hi) e2
      obtain ⟨c0, c1, c2⟩ := b4 i e k v e1 e2
      exact ⟨c0, VR.back hd he u1 c1, VR.back hd he u2 c2⟩⟩
  | iter m n seen =>
    obtain ⟨_, _, m1, a1, a2, _⟩ := h1
    obtain ⟨b0, b1, m', b2, b3, b4⟩ := h2
    refine ⟨b0, b1, m', fun r hr => ?_, b3, b4⟩
    obtain ⟨r1, c1, _⟩ := a1 r hr
    obtain ⟨r2, d1, d2⟩ := b2 r hr
    exact ⟨r2, by rw [← he _ (hd _ _ c1)]; exact d1, d2⟩
  | loop s N σ ps asg body =>
    obtain ⟨_, _, r1, _, _, a, _⟩ := h1
    obtain ⟨b0, b1, r, b2, b3, b4, b5⟩ := h2
    refine ⟨b0, b1, r, b2, b3, fun t v e => ?_, b5⟩
    obtain ⟨u, _, u2⟩ := a t v e
    obtain ⟨v', c1, c2⟩ := b4 t v e
    exact ⟨v', c1, VR.back hd he u2 c2⟩

/-- The heap as it was: what has been laid since is forgotten. -/
theorem HR.gc (hr : HR FC w0 ι h w) (hr' : HR FC w0 ι' (h ++ junk) w') (he : Ext h.length ι ι') : HR FC w0 ι h w' where
  below := hr'.below
  dom b y e := by
    have h1 := (hr.dom b y e).1
    exact ⟨h1, (hr'.dom b y (by rw [he b h1]; exact e)).2⟩
  blk b k y e i := by
    have h1 := (hr.dom b y i).1
    exact (hr.blk b k y e i).back hr.Dom he (hr'.blk b k y (get_push e) (by rw [he b h1]; exact i))
  inj b c k l y z hb hc hyz ek el hne hrw := hr.inj b c k l y z hb hc hyz ek el hne hrw
  mkd k hk := by
    obtain ⟨h1, h2⟩ := hr'.mkd k hk
    exact ⟨h1, fun b y e => h2 b y (by rw [he b (hr.dom b y e).1]; exact e)⟩

theorem CR.mem {vs us : List Value} (hc : CR ι vs us) {v : Value} (hv : v ∈ vs) : ∃ u, VR ι v u := by
  obtain ⟨i, hi, rfl⟩ := List.getElem_of_mem hv
  obtain ⟨u, _, h⟩ := hc.ex i _ (List.getElem?_eq_getElem hi)
  exact ⟨u, h⟩

/-- **A function that leaves the old heap as it was, and hands back no new block.** -/
theorem ACalls.gc {f : FuncId} {args : List Value} {K : Value → Prop} (hc : ACalls P f args h fun v h' => (∃ junk, h' = h ++ junk) ∧ (plainV 6 v = true ∨ v ∈ args) ∧ K v) : ACalls P f args h fun v h' => h' = h ∧ K v := by
  refine ⟨hc.1, fun w0 ι w args' ha hr => (hc.2 w0 ι w args' ha hr).mono ?_⟩
  rintro e w' ⟨u, rfl, v, h', ι', ⟨⟨junk, rfl⟩, hp, hk⟩, k1, k2, k3, k4⟩
  refine ⟨u, rfl, v, h, ι, ⟨rfl, hk⟩, Nat.le_refl _, Ext.refl _ _, ?_, hr.gc k4 k2⟩
  rcases hp with hp | hp
  · have h1 := VR.plain (ι := ι) 6 v hp
    exact VR.back hr.Dom k2 h1 k3
  · obtain ⟨u0, h0⟩ := ha.mem hp
    exact VR.back hr.Dom k2 h0 k3

/-- The same of a function that hands back a new row of plain values. -/
theorem ACalls.gcRow {f : FuncId} {args : List Value} {K : Nat → List Value → Nat → Nat → Prop}
    (hc : ACalls P f args h fun v h' => ∃ J1 J2 s cs l c, h' = h ++ J1 ++ .row s cs :: J2 ∧ v = .slice (some ⟨h.length + J1.length, 0, none⟩) l c ∧ cs.all (plainV 6) = true ∧ K s cs l c) :
    ACalls P f args h fun v h' => ∃ s cs l c, h' = h ++ [.row s cs] ∧ v = .slice (some ⟨h.length, 0, none⟩) l c ∧ K s cs l c := by
  refine ⟨hc.1, fun w0 ι w args' ha hr => (hc.2 w0 ι w args' ha hr).mono ?_⟩
  rintro e w' ⟨u, rfl, v, h', ι', ⟨J1, J2, s, cs, l, c, rfl, rfl, hp, hk⟩, k1, k2, k3, k4⟩
  have hb : ι h.length = none := by
    cases e : ι h.length with
    | none => rfl
    | some y => exact absurd (hr.dom _ _ e).1 (by omega)
  have hg : HR (flatC P) w0 ι h w' := by rw [List.append_assoc] at k4; exact hr.gc k4 k2
  have hat : (h ++ J1 ++ .row s cs :: J2)[h.length + J1.length]? = some (.row s cs) := by
    rw [List.getElem?_append_right (by simp)]; simp
  -- is the row known at all?
  cases hq : ι' (h.length + J1.length) with
  | none =>
    refine ⟨u, rfl, .slice (some ⟨h.length, 0, none⟩) l c, h ++ [.row s cs], ι, ⟨s, cs, l, c, rfl, rfl, hk⟩, by simp, Ext.refl _ _, ?_, hg.push _⟩
    cases k3 with
    | slice a1 a2 a3 a4 =>
      have hno : ¬ (0 < l ∨ 0 < c) := fun hh => by
        obtain ⟨_, _, o, K', e, _⟩ := a3 hh
        rw [hq] at e; cases e
      exact .slice a1 a2 (fun hh => absurd hh hno) (fun hh => absurd (.inr hh) hno)
  | some y =>
    obtain ⟨b1, b2, C, e, K0, b3, b4, b5, b6⟩ := k4.blk _ _ y hat hq
    have hle : Le ι (ι.upd h.length y) := Inj.upd_le _ hb
    have hyne : ∀ b z, ι b = some z → ∀ k, h[b]? = some k → k.rw = true ∨ k.live = true → z.1 ≠ y.1 := fun b z hz k hk' hrw hzy => by
      have hblt := (hr.dom b z hz).1
      have hz' : ι' b = some z := (k2 b hblt).trans hz
      have hlive := k4.inj (h.length + J1.length) b (.row s cs) k y z hq hz' hzy.symm hat (by rw [List.append_assoc]; exact get_push hk') (by omega) rfl
      rcases hrw with hrw | hrw
      · cases k <;> simp_all [Blk.live, Blk.rw]
      · simp [hlive] at hrw
    refine ⟨u, rfl, .slice (some ⟨h.length, 0, none⟩) l c, h ++ [.row s cs], ι.upd h.length y, ⟨s, cs, l, c, rfl, rfl, hk⟩, by simp, fun b hb' => Inj.upd_ne _ _ (by omega), ?_, ?_⟩
    · cases k3 with
      | slice a1 a2 a3 a4 =>
        refine .slice a1 a2 (fun hh => ?_) (fun hh b' o K' e' hz => ?_)
        · obtain ⟨q1, q2, o, K', q3, q4⟩ := a3 hh
          simp only at q3
          rw [hq] at q3; cases q3
          exact ⟨rfl, q2, o, K', by simp [Inj.upd], q4⟩
        · simp only [Inj.upd, if_true, Option.some.injEq] at e'
          subst e'
          exact a4 hh b' o K' hq hz
    · exact
        { below := k4.below
          dom := fun b z e => by
            by_cases hbh : b = h.length
            · subst hbh
              rw [Inj.upd_same] at e; cases e
              exact ⟨by simp, (k4.dom _ _ hq).2⟩
            · rw [Inj.upd_ne _ _ hbh] at e
              have := hg.dom b z e
              exact ⟨by simp; omega, this.2⟩
          blk := fun b k z e i => by
            by_cases hbh : b = h.length
            · subst hbh
              rw [Inj.upd_same] at i; cases i
              rw [List.getElem?_append_right (Nat.le_refl _)] at e
              simp at e; subst e
              exact ⟨b1, b2, C, _, K0, b3, b4, b5, fun i v hv => by
                obtain ⟨v', c1, c2⟩ := b6 i v hv
                have hpv : plainV 6 v = true := List.all_eq_true.1 hp v (List.mem_of_getElem? hv)
                exact ⟨v', c1, (VR.back (n := h.length) hr.Dom k2 (VR.plain 6 v hpv) c2).mono hle⟩⟩
            · rw [Inj.upd_ne _ _ hbh] at i
              have hlt := (hg.dom b z i).1
              rw [List.getElem?_append_left hlt] at e
              exact (hg.blk b k z e i).mono hle
          inj := fun b c k l' z1 z2 ib ic hyz ek el hne hrw => by
            by_cases hbh : b = h.length
            · subst hbh
              rw [Inj.upd_same] at ib; cases ib
              rw [Inj.upd_ne _ _ (Ne.symm hne)] at ic
              have hlt := (hg.dom c z2 ic).1
              rw [List.getElem?_append_left hlt] at el
              cases hl : l'.live with
              | false => rfl
              | true => exact absurd hyz.symm (hyne c z2 ic l' el (.inr hl))
            · rw [Inj.upd_ne _ _ hbh] at ib
              have hlt := (hg.dom b z1 ib).1
              rw [List.getElem?_append_left hlt] at ek
              by_cases hch : c = h.length
              · subst hch
                rw [Inj.upd_same] at ic; cases ic
                exact absurd hyz (hyne b z1 ib k ek (.inl hrw))
              · rw [Inj.upd_ne _ _ hch] at ic
                have hlt2 := (hg.dom c z2 ic).1
                rw [List.getElem?_append_left hlt2] at el
                exact hg.inj b c k l' z1 z2 ib ic hyz ek el hne hrw
          mkd := fun k hk => by
            obtain ⟨h1, h2⟩ := k4.mkd k hk
            refine ⟨h1, fun b z e => ?_⟩
            by_cases hbh : b = h.length
            · subst hbh
              rw [Inj.upd_same] at e; cases e
              exact h2 _ _ hq
            · rw [Inj.upd_ne _ _ hbh] at e
              exact (hg.mkd k hk).2 b z e }

end
end Go.Pw
