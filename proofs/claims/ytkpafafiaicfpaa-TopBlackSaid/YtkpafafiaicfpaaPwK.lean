/- The abstract logic in which the functions of the program are walked, part 12. No condition. -/
import Derived.Test.YtkpafafiaicfpaaPwJ
set_option linter.unusedSimpArgs false
set_option linter.unusedVariables false
set_option linter.unusedSectionVars false
/-! The abstract logic, part K: regions that are met in the order of the text. -/
namespace Go.Pw
open Go.RowKit (Below)

def aev (σ : Tm) : Operand → Option Value
  | .tmp t => lk σ t
  | .const v => some v
  | .func f => some (.func (.func f) #[] #[])
  | .global _ => none
def aevs (σ : Tm) : List Operand → Option (List Value)
  | [] => some []
  | x :: xs => match aev σ x, aevs σ xs with
    | some v, some vs => some (v :: vs)
    | _, _ => none
def putσ (σ : Tm) (d : Option Nat) (v : Value) : Tm := match d with
  | none => σ
  | some d => stt σ d v
def gateW (σ : Tm) (g : Option (Nat × Bool)) (yes no : Prop) : Prop := match g with
  | none => yes
  | some (t, w) => match lk σ t with
    | some (.bool b) => if b = w then yes else no
    | some _ => no
    | none => False

def againW (σ : Tm) (h : AH) (o : AOper) : Prop :=
  gateW σ o.g (match aevs σ o.xs, o.dst.bind (lk σ) with
    | some vs, some v => match semE (bOf v) o.opc vs h with
      | some (v2, nb, h2) => v2 = v ∧ h2 = h ∧ (match nb with
        | none => True
        | some k => h[bOf v]? = some k)
      | none => False
    | _, _ => False) True

def regW (P : Program) : List It → Tm → AH → (Tm → AH → Prop) → Prop
  | [], σ, h, K => K σ h
  | .ev o :: r, σ, h, K => gateW σ o.g (match aevs σ o.xs with
      | some vs => opV P o.opc vs h fun v h' => regW P r (putσ σ o.dst v) h' K
      | none => False) (regW P r (putσ σ o.dst undef) h K)
  | .again o :: r, σ, h, K => againW σ h o ∧ regW P r σ h K

section
variable {P : Program} {w0 : Fr} {w : World} {ι : Inj} {h h' : AH} {σ : Tm} {A : Array Value}

/-- The temporary t is known as it is. -/
def T1 (ι : Inj) (σ : Tm) (A : Array Value) (t : Nat) : Prop := ∀ v, lk σ t = some v → ∃ v', A[t]? = some v' ∧ VR ι v v'

theorem T1.mono {ι ι' : Inj} (hl : Le ι ι') {t : Nat} (h : T1 ι σ A t) : T1 ι' σ A t := fun v e => let ⟨v', a, b⟩ := h v e; ⟨v', a, b.mono hl⟩

theorem T1.put {d : Nat} {v u : Value} (hd : d < A.size) (hv : VR ι v u) : T1 ι (stt σ d v) (A.setIfInBounds d u) d := fun x e => by
  rw [lk_stt, if_pos rfl] at e
  cases e
  exact ⟨u, by simp [hd], hv⟩
theorem T1.put_ne {d t : Nat} {v u : Value} (hne : d ≠ t) (h : T1 ι σ A t) : T1 ι (stt σ d v) (A.setIfInBounds d u) t := fun x e => by
  rw [lk_stt, if_neg hne] at e
  obtain ⟨v', a, b⟩ := h x e
  exact ⟨v', by rw [Array.getElem?_setIfInBounds_ne hne]; exact a, b⟩

theorem undef_VR (ι : Inj) : VR ι undef undef := VR.plain 1 undef (by simp [plainV, undef])

theorem aevs_sound {a : Act} : ∀ {xs : List Operand} {vs : List Value}, (∀ t, Operand.tmp t ∈ xs → T1 ι σ a.tmps t) → xs.all plainO = true → aevs σ xs = some vs → OpsR ι a.eval xs vs
  | [], vs, _, _, h => by simp [aevs] at h; subst h; trivial
  | x :: xs, vs, ht, hp, h => by
    simp only [aevs] at h
    split at h
    · rename_i v vs' e1 e2
      cases h
      simp only [List.all_cons, Bool.and_eq_true] at hp
      refine ⟨?_, aevs_sound (fun t m => ht t (by simp [m])) hp.2 e2⟩
      cases x with
      | tmp t =>
        obtain ⟨v', a1, a2⟩ := ht t (by simp) v e1
        simp only [Act.eval, Array.getD_eq_getD_getElem?, a1, Option.getD_some]
        exact a2
      | const c => simp only [aev, Option.some.injEq] at e1; subst e1; exact VR.plain 6 _ hp.1
      | func f => simp only [aev, Option.some.injEq] at e1; subst e1; exact VR.plain 1 _ (by simp [plainV])
      | global g => simp [aev] at e1
    · cases h

theorem gate_sound {ops : Array Oper} {N : Nat} {o : Oper} {ao : AOper} (hf : flatOper P N ops o = some ao) {a : Act} (ht : ∀ t w, ao.g = some (t, w) → T1 ι σ a.tmps t) {yes no : Prop} (hg : gateW σ ao.g yes no) :
    (Region.wanted o (yielded ops a.tmps) = true ∧ yes) ∨ (Region.wanted o (yielded ops a.tmps) = false ∧ no) := by
  simp only [flatOper, Option.bind_eq_some_iff] at hf
  obtain ⟨⟨opc, xs⟩, h1, g, h2, h3⟩ := hf
  split at h3 <;> cases h3
  simp only at ht hg
  unfold Region.wanted
  cases hgd : o.guard with
  | none =>
    rw [hgd] at h2
    cases h2
    exact .inl ⟨rfl, hg⟩
  | some jw =>
    obtain ⟨j, wnt⟩ := jw
    rw [hgd] at h2
    simp only [guardA, Option.map_eq_some_iff] at h2
    obtain ⟨t, h3, rfl⟩ := h2
    simp only [gateW] at hg
    simp only [yielded, h3, Option.bind_some]
    cases hl : lk σ t with
    | none => rw [hl] at hg; exact hg.elim
    | some v =>
      rw [hl] at hg
      obtain ⟨v', a1, a2⟩ := ht t wnt rfl v hl
      rw [a1]
      cases a2 with
      | bool b =>
        simp only at hg
        by_cases hb : b = wnt
        · rw [if_pos hb] at hg; exact .inl ⟨by simp [hb], hg⟩
        · rw [if_neg hb] at hg; exact .inr ⟨by simp [hb], hg⟩
      | _ => exact .inr ⟨by simp, hg⟩

theorem flatOper_op {ops : Array Oper} {N : Nat} {o : Oper} {ao : AOper} (hf : flatOper P N ops o = some ao) : flatOp P o.op = some (ao.opc, ao.xs) ∧ ao.dst = o.dst ∧ ao.xs.all plainO = true ∧ ∀ d, o.dst = some d → d < N := by
  simp only [flatOper, Option.bind_eq_some_iff] at hf
  obtain ⟨⟨opc, xs⟩, h1, g, h2, h3⟩ := hf
  split at h3 <;> cases h3
  rename_i hc
  refine ⟨h1, rfl, hc.2, fun d e => ?_⟩
  have := hc.1
  rw [e] at this
  simpa [dstOk] using this

/-- How a frame stands for what is known of it. -/
structure Rel (P : Program) (w0 : Fr) (N : Nat) (ι : Inj) (σ : Tm) (h : AH) (a : Act) (w : World) : Prop where
  size : a.tmps.size = N
  tr : TR ι σ a.tmps
  hr : HR (flatC P) w0 ι h w

theorem TR.t1 {ι : Inj} {σ : Tm} {A : Array Value} (h : TR ι σ A) (t : Nat) : T1 ι σ A t := fun v e => h t v e

theorem TR.put {d : Nat} {v u : Value} (h : TR ι σ A) (hd : d < A.size) (hv : VR ι v u) : TR ι (stt σ d v) (A.setIfInBounds d u) := fun t x e => by
  by_cases hdt : d = t
  · subst hdt; exact T1.put hd hv x e
  · exact T1.put_ne hdt (h.t1 t) x e

theorem Rel.put {N : Nat} {a : Act} {d : Option Nat} {v u : Value} (h1 : a.tmps.size = N) (h2 : TR ι σ a.tmps) (hr : HR (flatC P) w0 ι h w) (hd : ∀ x, d = some x → x < N) (hv : VR ι v u) :
    Rel P w0 N ι (putσ σ d v) h (a.put d u) w := by
  cases d with
  | none => exact ⟨h1, h2, hr⟩
  | some d => exact ⟨by simp [Act.put, h1], h2.put (by rw [h1]; exact hd d rfl) hv, hr⟩

theorem put_defers (a : Act) (d : Option Nat) (u : Value) : (a.put d u).defers = a.defers := by cases d <;> rfl

theorem text_sound {ops : Array Oper} {N : Nat} {fo : List AOper} {r : Option Nat} {Q : Exit → Act → World → Prop} {K : Tm → AH → Prop} {n0 : Nat} {ι0 : Inj} {ds : List Deferred}
    (hfo : ∀ i o, ops[i]? = some o → flatOper P N ops o = some (opAt fo i))
    (hK : ∀ σ h ι a w, K σ h → n0 ≤ h.length → Ext n0 ι0 ι → Rel P w0 N ι σ h a w → a.defers = ds → Q .normal a w) :
    ∀ (is : List Nat) (σ : Tm) (h : AH) (ι : Inj) (a : Act) (w : World), (∀ i ∈ is, i < ops.size) → n0 ≤ h.length → Ext n0 ι0 ι → Rel P w0 N ι σ h a w → a.defers = ds →
      regW P (is.map fun i => .ev (opAt fo i)) σ h K → wpOpsIn (rf r) 0 P ops Q is a w
  | [], σ, h, ι, a, w, _, hn, he, hr, hd, hW => hK σ h ι a w hW hn he hr hd
  | i :: is, σ, h, ι, a, w, hin, hn, he, hr, hd, hW => by
    have hi : i < ops.size := hin i (by simp)
    have ho : ops[i]? = some ops[i] := Array.getElem?_eq_getElem hi
    have hf := hfo i _ ho
    obtain ⟨h1, h2, h3, h4⟩ := flatOper_op hf
    simp only [wpOpsIn, ho]
    simp only [List.map_cons, regW] at hW
    rcases gate_sound hf (fun t w _ => hr.tr.t1 t) hW with ⟨hw, hW⟩ | ⟨hw, hW⟩
    · rw [if_pos hw]
      split at hW
      · rename_i vs hvs
        refine op_sound h1 (aevs_sound (fun t _ => hr.tr.t1 t) h3 hvs) hr.hr hW fun u w' v h' ι' hk k1 k2 k3 k4 => ?_
        have hle : Le ι ι' := k2.le hr.hr.Dom
        refine text_sound hfo hK is _ h' ι' _ w' (fun j hj => hin j (by simp [hj])) (by omega) (he.trans k2 hn) (Rel.put hr.size (hr.tr.mono hle) k4 h4 k3) (by rw [put_defers]; exact hd) ?_
        rw [← h2]; exact hk
      · exact hW.elim
    · rw [if_neg (by simp [hw])]
      refine ⟨fun _ _ => trivial, ?_⟩
      refine text_sound hfo hK is _ h ι _ w (fun j hj => hin j (by simp [hj])) hn he (Rel.put hr.size hr.tr hr.hr h4 (undef_VR ι)) (by rw [put_defers]; exact hd) ?_
      rw [← h2]; exact hW

end
end Go.Pw
