/- The abstract logic in which the functions of the program are walked, part 17. No condition. -/
import Derived.Test.YtkpafafiaicfpaaPwO
import Derived.RangeFuncNested
set_option linter.unusedSimpArgs false
set_option linter.unusedVariables false
set_option linter.unusedSectionVars false
/-! The abstract logic, part P: a range over a function. -/
namespace Go.Pw
open Go.RowKit (Below)

def bindσ : Tm → List Nat → List Value → Tm
  | σ, p :: ps, v :: vs => bindσ (stt σ p v) ps vs
  | σ, _, _ => σ

section
variable {P : Program} {N : Nat} {w0 : Fr} {ι : Inj} {σ : Tm} {h : AH} {w : World} {a : Act} {FC : Nat → Code → Option AC}

theorem HR.unmark {ns : List Nat} (hr : HR FC (w0.add ns) ι h w) : HR FC w0 ι h w where
  below := hr.below
  dom := hr.dom
  blk := hr.blk
  inj := hr.inj
  mkd k hk := hr.mkd k (by simp only [Fr.add, List.mem_append]; exact .inr hk)

theorem bind_sound : ∀ (ps : List Nat) (vs : List Value) (us : List Value) (σ : Tm) (A : Array Value), TR ι σ A → (∀ p ∈ ps, p < A.size) → CR ι vs us →
    TR ι (bindσ σ ps vs) ((ps.zip us).foldl (fun t (p, v) => t.setIfInBounds p v) A) ∧ ((ps.zip us).foldl (fun t (p, v) => t.setIfInBounds p v) A).size = A.size
  | [], _, _, σ, A, ht, _, _ => by simp [bindσ, ht]
  | p :: ps, [], us, σ, A, ht, _, hc => by
    have : us = [] := by have := hc.1; simpa using this.symm
    subst this; simp [bindσ, ht]
  | p :: ps, v :: vs, [], σ, A, ht, _, hc => absurd hc.1 (by simp)
  | p :: ps, v :: vs, u :: us, σ, A, ht, hp, hc => by
    have h1 : VR ι v u := hc.2 0 v u rfl rfl
    have h2 : CR ι vs us := ⟨by have := hc.1; simpa using this, fun i x x' e e' => hc.2 (i + 1) x x' (by simpa using e) (by simpa using e')⟩
    obtain ⟨q1, q2⟩ := bind_sound ps vs us (stt σ p v) (A.setIfInBounds p u) (ht.put (hp p (by simp)) h1) (fun x hx => by simpa using hp x (by simp [hx])) h2
    exact ⟨q1, by simpa using q2⟩

/-- The round's end, by the way the body is left. -/
def RndQ (l N : Nat) (σ0 : Tm) (ps : List Nat) (asg body : AC) (K : Value → AH → Prop) : Ex → Tm → AH → Prop
  | .nrm, _, h => h[l]? = some (.loop .busy N σ0 ps asg body) ∧ K (.bool true) (h.set l (.loop .ready N σ0 ps asg body))
  | .ret, _, h => h[l]? = some (.loop .busy N σ0 ps asg body) ∧ K (.bool false) (h.set l (.loop (.done .ret) N σ0 ps asg body))
  | .ex id, _, h => h[l]? = some (.loop .busy N σ0 ps asg body) ∧ K (.bool false) (h.set l (.loop (.done (.exit id)) N σ0 ps asg body))
/-- Behind the assignments to the loop's variables. -/
def AsgQ (P : Program) (l N : Nat) (σ0 : Tm) (ps : List Nat) (asg body : AC) (K : Value → AH → Prop) : Ex → Tm → AH → Prop
  | .nrm, σ, h => h[l]? = some (.loop .ready N σ0 ps asg body) ∧ AW P N (some l) body (RndQ l N σ0 ps asg body K) σ (h.set l (.loop .busy N σ0 ps asg body))
  | _, _, _ => False

/-- The loop's record, in the world. -/
theorem HR.loopAt (hr : HR FC w0 ι h w) {l l' : Nat} (hl : ι l = some (l', 0, none)) {s : LSt} {ps : List Nat} {asg body : AC} (hh : h[l]? = some (.loop s N σ ps asg body)) :
    w0.heap.size ≤ l' ∧ ∃ r : Loop, w.heap[l']? = some (.loop r) ∧ r.tmps.size = N ∧ TR ι σ r.tmps ∧ r.params.toList = ps ∧ FC N r.assign = some asg ∧ FC N r.body = some body ∧ s.says r := by
  obtain ⟨_, h1, r, h2⟩ := hr.blk l _ _ hh hl
  exact ⟨h1, r, h2⟩

/-- The loop's record turns. -/
theorem HR.loopSet (hr : HR FC w0 ι h w) {l l' : Nat} (hl : ι l = some (l', 0, none)) {s s' : LSt} {ps : List Nat} {asg body : AC} (hh : h[l]? = some (.loop s N σ ps asg body)) {r r' : Loop} (hr0 : w.heap[l']? = some (.loop r))
    (hs : r'.tmps = r.tmps ∧ r'.params = r.params ∧ r'.assign = r.assign ∧ r'.body = r.body)
    (hst : s'.says r') : HR FC w0 ι (h.set l (.loop s' N σ ps asg body)) (w.putObj l' (.loop r')) := by
  obtain ⟨h1, r1, h2, h3, h4, h5, h6, h7, _⟩ := hr.loopAt hl hh
  rw [hr0] at h2
  cases h2
  obtain ⟨e1, e2, e3, e4⟩ := hs
  refine HR.set hr hh rfl rfl hl h1 (x := .loop r') rfl rfl rfl rfl ⟨rfl, h1, r', rfl, by rw [e1]; exact h3, by rw [e1]; exact h4, by rw [e2]; exact h5, by rw [e3]; exact h6, by rw [e4]; exact h7, hst⟩

/-- **The yield of a loop.** -/
theorem AYields.of {l : Nat} {ps : List Nat} {asg body : AC} {args : List Value} {K : Value → AH → Prop} (hh : h[l]? = some (.loop .ready N σ ps asg body)) (hlen : args.length = ps.length) (hps : ∀ p ∈ ps, p < N)
    (hw : AW P N (some l) asg (AsgQ P l N σ ps asg body K) (bindσ σ ps args) h) : AYields P l args h K := by
  intro w0 ι w args' l' hcr hr hl
  obtain ⟨b1, r, h1, h2, h3, h4, h5, h6, h7⟩ := hr.loopAt hl hh
  have hsz : args'.size = r.params.size := by
    have e1 := hcr.1
    have e2 : r.params.toList.length = ps.length := by rw [h4]
    simp at e1 e2
    omega
  refine ⟨_, _, _, _, run_yield h1 hsz, roundIn_of_wpIn trivial ?_⟩
  have hfold : (r.params.zip args').foldl (fun tmps (t, a) => tmps.setIfInBounds t a) r.tmps = (ps.zip args'.toList).foldl (fun t (p, v) => t.setIfInBounds p v) r.tmps := by
    rw [← Array.foldl_toList, Array.toList_zip, h4]
  obtain ⟨q1, q2⟩ := bind_sound ps args args'.toList σ r.tmps h3 (fun p hp => by rw [h2]; exact hps p hp) hcr
  have hllt : l < h.length := (List.getElem?_eq_some_iff.1 hh).1
  have hrel : Rel P w0 N ι (bindσ σ ps args) h { tmps := (r.params.zip args').foldl (fun tmps (t, a) => tmps.setIfInBounds t a) r.tmps, defers := [] } w :=
    ⟨by rw [hfold, q2, h2], by rw [hfold]; exact q1, hr⟩
  refine wpIn_mono (hw r.assign w0 ι _ w (some l') h5 hrel hl (fun x e => by cases e; exact hllt)) fun e a1 w1 hp => ?_
  obtain ⟨x, σ1, g1, ι1, ns, rfl, q, k1, k2, k3, k4, k5, k6⟩ := hp
  cases x with
  | ex i => exact q.elim
  | ret => exact q.elim
  | nrm =>
    obtain ⟨hl1, hbody⟩ := q
    have hi1 : ι1 l = some (l', 0, none) := (k2 l hllt).trans hl
    obtain ⟨c1, r1, d1, d2, d3, d4, d5, d6, d7⟩ := k3.hr.loopAt hi1 hl1
    refine ⟨_, run_beginRound d1 d7.1, ?_⟩
    have hr2 := k3.hr.loopSet (s' := .busy) hi1 hl1 (r' := { r1 with state := .busy }) d1 ⟨rfl, rfl, rfl, rfl⟩ ⟨rfl, d7.2⟩
    have hlt1 : l < g1.length := (List.getElem?_eq_some_iff.1 hl1).1
    have hb := hbody r.body (w0.add ns) ι1 a1 _ (some l') h6 ⟨k3.size, k3.tr, hr2⟩ hi1 (fun x e => by cases e; simpa using hlt1)
    refine wpIn_mono hb fun e a2 w2 hp => ?_
    obtain ⟨x, σ2, g2, ι2, ms, rfl, q, m1, m2, m3, m4, m5, m6⟩ := hp
    have hi2 : ι2 l = some (l', 0, none) := (m2 l (by simpa using hlt1)).trans hi1
    have fin : ∀ (jump : Option Code) (s' : LSt), g2[l]? = some (.loop .busy N σ ps asg body) → (match s' with
       | .ready => jump = none
       | .busy => False
       | .done e => jump = some e.code
       | .gone => False) → K (.bool jump.isNone) (g2.set l (.loop s' N σ ps asg body)) →
        ∃ v w', (Instr.endRound l' jump).run P w2 = .ok v w' ∧ ∃ u, Ending.returned v = .returned u ∧ Post P w0 ι h.length K u w' := fun jump s' hg2 hj hk => by
      obtain ⟨n1, r2, n2, n3, n4, n5, n6, n7, n8⟩ := m3.hr.loopAt hi2 hg2
      have hr3 := m3.hr.loopSet (s' := s') hi2 hg2 (r' := { r2 with state := if jump.isNone then .ready else .done, pending := jump }) n2 ⟨rfl, rfl, rfl, rfl⟩ (by
        cases s' with
        | ready => simp only at hj; subst hj; exact ⟨rfl, rfl⟩
        | busy => exact hj.elim
        | done e => simp only at hj; subst hj; exact ⟨rfl, rfl⟩
        | gone => trivial)
      refine ⟨_, _, run_endRound jump n2, _, rfl, .bool jump.isNone, _, ι2, hk, by simp at m1 ⊢; omega, k2.trans (m2.mono (by simpa using k1)) (Nat.le_refl _), .bool _, ?_⟩
      have hr4 := hr3
      rw [Fr.add_add] at hr4
      exact hr4.unmark
    cases x with
    | nrm => exact fin none .ready q.1 rfl q.2
    | ret => exact fin (some .ret) (.done .ret) q.1 rfl q.2
    | ex id => exact fin (some (.exit id)) (.done (.exit id)) q.1 rfl q.2

end
end Go.Pw
