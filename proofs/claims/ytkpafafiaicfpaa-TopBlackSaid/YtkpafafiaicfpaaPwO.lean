/- The abstract logic in which the functions of the program are walked, part 16. No condition. -/
import Derived.Test.YtkpafafiaicfpaaPwN
import Derived.RangeFuncRecord
set_option linter.unusedSimpArgs false
set_option linter.unusedVariables false
set_option linter.unusedSectionVars false
/-! The abstract logic, part O: functions. -/
namespace Go.Pw
open Go.RowKit (Below)

/-- A result: a temporary, or what lies behind one: one cell, or so many. -/
inductive RA where
  | tmp (t : Nat)
  | one (t : Nat)
  | many (t n : Nat)
  deriving DecidableEq, Inhabited

def flatRes (P : Program) : ResultVar → Option RA
  | .tmp t => some (.tmp t)
  | .cell a t => (aggC P t).bind fun g => (sizeC P t).map fun n => if g then .many a n else .one a

def resOne (σ : Tm) (h : AH) : RA → Option Value
  | .tmp t => lk σ t
  | .one t => match lk σ t with
    | some (.pointer (some a)) => rd1 h a
    | _ => none
  | .many t n => match lk σ t with
    | some (.pointer (some a)) => (rdN h a n).map fun cs => .agg cs.toArray
    | _ => none
def resAll (σ : Tm) (h : AH) : List RA → Option (List Value)
  | [] => some []
  | r :: rs => match resOne σ h r, resAll σ h rs with
    | some v, some vs => some (v :: vs)
    | _, _ => none
def resVal : List Value → Value
  | [v] => v
  | vs => .tuple vs.toArray

/-- What is asked of a function's body. -/
def FunQ (rs : List RA) (K : Value → AH → Prop) : Ex → Tm → AH → Prop
  | .ex _, _, _ => False
  | _, σ, h => match resAll σ h rs with
    | some vs => K (resVal vs) h
    | none => False

def argT : Nat → List Value → Tm
  | _, [] => []
  | i, v :: r => (i, v) :: argT (i + 1) r

section
variable {P : Program} {N : Nat} {w0 : Fr} {ι : Inj} {σ : Tm} {h : AH} {w : World} {a : Act}

theorem argT_lk : ∀ (l : List Value) (i t : Nat) (v : Value), lk (argT i l) t = some v → i ≤ t ∧ l[t - i]? = some v
  | [], i, t, v, h => by simp [argT, lk] at h
  | x :: l, i, t, v, h => by
    simp only [argT, lk] at h
    split at h
    · rename_i e; subst e; cases h; exact ⟨Nat.le_refl _, by simp⟩
    · obtain ⟨h1, h2⟩ := argT_lk l (i + 1) t v h
      refine ⟨by omega, ?_⟩
      rw [show t - i = (t - (i + 1)) + 1 by omega, List.getElem?_cons_succ]
      exact h2

theorem TR.args {args : List Value} {args' : Array Value} {n : Nat} (hc : CR ι args args'.toList) : TR ι (argT 0 args) (args' ++ Array.replicate n undef) := fun t v e => by
  obtain ⟨_, h2⟩ := argT_lk args 0 t v e
  obtain ⟨v', h3, h4⟩ := hc.ex t v (by simpa using h2)
  refine ⟨v', ?_, h4⟩
  have hlt : t < args'.size := by have := (List.getElem?_eq_some_iff.1 h3).1; simpa using this
  rw [Array.getElem?_append_left hlt]
  simpa using h3

theorem res_sound {x : ResultVar} {ra : RA} (hf : flatRes P x = some ra) (hr : Rel P w0 N ι σ h a w) {v : Value} (hv : resOne σ h ra = some v) :
    ∃ u, (match x with
      | .tmp t => (pure (a.tmps.getD t undef) : Sem Value)
      | .cell b t => do loadVar t (← asAddr (a.tmps.getD b undef))).run P w = .ok u w ∧ VR ι v u := by
  have ht : ∀ t v, lk σ t = some v → ∃ u, a.tmps.getD t undef = u ∧ VR ι v u := fun t v e => by
    obtain ⟨v', e1, e2⟩ := hr.tr t v e
    exact ⟨v', by simp [Array.getD_eq_getD_getElem?, e1], e2⟩
  cases x with
  | tmp t =>
    cases hf
    obtain ⟨u, e1, e2⟩ := ht t v hv
    exact ⟨u, by simp [e1], e2⟩
  | cell b t =>
    simp only [flatRes, Option.bind_eq_some_iff, Option.map_eq_some_iff] at hf
    obtain ⟨g, hg, n, hn, rfl⟩ := hf
    cases g with
    | true =>
      simp only [if_true, resOne] at hv
      split at hv
      · rename_i ad hl
        simp only [Option.map_eq_some_iff] at hv
        obtain ⟨cs, h1, rfl⟩ := hv
        obtain ⟨u, e1, e2⟩ := ht b _ hl
        cases e2 with
        | ptr had =>
          obtain ⟨cs', c1, c2, c3⟩ := hr.hr.cellsN had h1
          have hload := run_loadCells_list (P := P) w _ cs' c3
          rw [c2] at hload
          refine ⟨.agg cs'.toArray, ?_, .agg (by simpa using c1.1) fun i v v' e e' => c1.2 i v v' (by simpa using e) (by simpa using e')⟩
          simp [e1, asAddr, loadVar, run_isAgg hg, run_sizeOf hn, hload]
      · cases hv
    | false =>
      simp only [Bool.false_eq_true, if_false, resOne] at hv
      split at hv
      · rename_i ad hl
        obtain ⟨u, e1, e2⟩ := ht b _ hl
        cases e2 with
        | ptr had =>
          obtain ⟨v', c1, c2⟩ := hr.hr.cell had hv
          refine ⟨v', ?_, c2⟩
          simp [e1, asAddr, loadVar, run_isAgg hg, c1]
      · cases hv

/-- How a result is read. -/
def resRun (tmps : Array Value) (x : ResultVar) : Sem Value := match x with
  | .tmp t => pure (tmps.getD t undef)
  | .cell b t => do loadVar t (← asAddr (tmps.getD b undef))

theorem resAll_sound (tmps : Array Value) (he : a.tmps = tmps) (hr : Rel P w0 N ι σ h a w) : ∀ {xs : List ResultVar} {rs : List RA} {vs : List Value}, allSome (xs.map (flatRes P)) = some rs → resAll σ h rs = some vs →
    ∃ us : List Value, (xs.mapM (resRun tmps)).run P w = .ok us w ∧ CR ι vs us
  | [], rs, vs, hf, hv => by
    simp [allSome] at hf; subst hf
    simp [resAll] at hv; subst hv
    exact ⟨[], by simp, rfl, fun i v v' e => by simp at e⟩
  | x :: xs, rs, vs, hf, hv => by
    simp only [List.map_cons, allSome, Option.bind_eq_some_iff, Option.map_eq_some_iff] at hf
    obtain ⟨ra, h1, rs', h2, rfl⟩ := hf
    simp only [resAll] at hv
    split at hv
    · rename_i v vs' e1 e2
      cases hv
      obtain ⟨u, q1, q2⟩ := res_sound h1 hr e1
      rw [he] at q1
      have q1 : (resRun tmps x).run P w = .ok u w := q1
      obtain ⟨us, q3, q4⟩ := resAll_sound tmps he hr h2 e2
      refine ⟨u :: us, ?_, by simp [q4.1], fun i x x' e e' => ?_⟩
      · rw [List.mapM_cons, Sem.run_bind, q1]
        simp only [Result.andThen_ok, Sem.run_bind, q3, Sem.run_pure]
      · cases i with
        | zero => simp at e e'; subst e; subst e'; exact q2
        | succ i => simp at e e'; exact q4.2 i x x' e e'
    · cases hv

theorem results_sound {fn : Func} {rs : List RA} {vs : List Value} (hf : allSome (fn.results.toList.map (flatRes P)) = some rs) (hr : Rel P w0 N ι σ h a w) (hv : resAll σ h rs = some vs) :
    ∃ u, (results fn a.tmps).run P w = .ok u w ∧ VR ι (resVal vs) u := by
  obtain ⟨us, h1, h2⟩ := resAll_sound a.tmps rfl hr hf hv
  have hm : (fn.results.mapM (resRun a.tmps)).run P w = .ok us.toArray w := by
    rw [Array.mapM_eq_mapM_toList, Sem.run_map, h1]; rfl
  have hres : results fn a.tmps = (do
      let vs ← fn.results.mapM (resRun a.tmps)
      pure (if h : vs.size = 1 then vs[0] else .tuple vs)) := rfl
  rw [hres]
  simp only [Sem.run_bind, hm]
  simp only [Result.andThen_ok, Sem.run_pure]
  refine ⟨_, rfl, ?_⟩
  match vs, us, h2 with
  | [], [], _ => exact .tuple rfl fun i v v' e => by simp at e
  | [v], [u], h2 => exact h2.2 0 v u rfl rfl
  | v :: v2 :: vs, u :: u2 :: us, h2 =>
    have : ¬ (u :: u2 :: us).toArray.size = 1 := by simp
    rw [dif_neg this]
    exact .tuple (by simpa using h2.1) fun i x x' e e' => h2.2 i x x' (by simpa using e) (by simpa using e')
  | [], _ :: _, h2 => exact absurd h2.1 (by simp)
  | [_], [], h2 => exact absurd h2.1 (by simp)
  | [_], _ :: _ :: _, h2 => exact absurd h2.1 (by simp)
  | _ :: _ :: _, [], h2 => exact absurd h2.1 (by simp)
  | _ :: _ :: _, [_], h2 => exact absurd h2.1 (by simp)

/-- A mark is taken over: its block is shut. -/
theorem HR.shut {k : Nat} {ns : List Nat} {FC : Nat → Code → Option AC} (hr : HR FC (w0.add (k :: ns)) ι h w) (hk : k ∉ ns ∧ k ∉ w0.marks) (hb : w0.heap.size ≤ k) : HR FC (w0.add ns) ι h (w.putObj k (.deferred none)) where
  below := hr.below.trans ⟨rfl, rfl, rfl, by simp, fun j hj => World.putObj_heap_other (by have : (w0.add (k :: ns)).heap.size = w0.heap.size := rfl; omega)⟩
  dom b y e := by have := hr.dom b y e; simpa using this
  blk b l y e i := by
    have hne := (hr.mkd k (by simp [Fr.add])).2 b y i
    rw [World.putObj_heap_other hne]
    exact hr.blk b l y e i
  inj := hr.inj
  mkd j hj := by
    have hj' : j ∈ (w0.add (k :: ns)).marks := by simp only [Fr.add, List.cons_append, List.mem_cons]; exact .inr hj
    obtain ⟨h1, h2⟩ := hr.mkd j hj'
    refine ⟨?_, h2⟩
    rw [World.putObj_heap_other]
    · exact h1
    · rintro rfl
      simp only [Fr.add, List.mem_append] at hj
      rcases hj with hj | hj
      · exact hk.1 hj
      · exact hk.2 hj

theorem leaves_marks {fn : Func} {R : Ending → World → Prop} : ∀ (ns : List Nat) (w : World), Rel P (w0.add ns) N ι σ h a w → ns.Nodup → (∀ k ∈ ns, k ∉ w0.marks ∧ w0.heap.size ≤ k) →
    (∀ w', Rel P w0 N ι σ h a w' → ∃ v, (results fn a.tmps).run P w' = .ok v w' ∧ R (.returned v) w') → LeavesInM Fence.wide 0 P fn a.tmps R (Mk ns) .returning w
  | [], w, hr, _, _, hR => hR w hr
  | k :: ns, w, hr, hnd, hk, hR => by
    obtain ⟨h1, h2⟩ := List.nodup_cons.1 hnd
    have hk0 := hk k (by simp)
    refine ⟨by simp, .inl ⟨k, w.putObj k (.deferred none), rfl, ?_, leaves_marks ns _ ⟨hr.size, hr.tr, hr.hr.shut ⟨h1, hk0.1⟩ hk0.2⟩ h2 (fun j hj => hk j (by simp [hj])) hR⟩⟩
    exact run_takeDeferred (hr.hr.mkd k (by simp [Fr.add])).1

theorem Ent.of {f : FuncId} {fn : Func} {C : Code} (hf : P.funcs[f]? = some fn) (hb : fn.body = some C) (hn : (fn.name == "runtime.NumGoroutine") = false) : Ent P f := fun args w => by
  have hp : Sem.run P program w = .ok P w := rfl
  simp only [callFunc, Sem.run_bind, hp, Result.andThen_ok, hf, hn, hb]
  simp

/-- **A function, from its body.** -/
theorem fun_sound {f : FuncId} {fn : Func} {C : Code} {c : AC} {rs : List RA} {args : List Value} {K : Value → AH → Prop} (hf : P.funcs[f]? = some fn) (hb : fn.body = some C) (hn : (fn.name == "runtime.NumGoroutine") = false)
    (hc : flatC P fn.ntmps C = some c) (hres : allSome (fn.results.toList.map (flatRes P)) = some rs) (hlen : args.length ≤ fn.ntmps)
    (hw : AW P fn.ntmps none c (FunQ rs K) (argT 0 args) h) : ACalls P f args h K := by
  refine ⟨Ent.of hf hb hn, fun w0 ι w args' hcr hr => callsIn_of_wp_marks hf hb trivial ?_⟩
  have hsz : args'.size = args.length := by have := hcr.1; simpa using this.symm
  have hrel : Rel P w0 fn.ntmps ι (argT 0 args) h { tmps := args' ++ Array.replicate (fn.ntmps - args'.size) undef, defers := [] } w :=
    ⟨by simp; omega, TR.args hcr, hr⟩
  refine wpIn_mono (hw C w0 ι _ w none hc hrel trivial (fun l e => by cases e)) fun e a' w' hp => ?_
  obtain ⟨x, σ', h', ι', ns, rfl, q, q1, q2, q3, q4, q5, q6⟩ := hp
  simp only [List.append_nil] at q4
  have key : (∃ vs, resAll σ' h' rs = some vs ∧ K (resVal vs) h') → LeavesInM Fence.wide 0 P fn a'.tmps (fun e w' => ∃ u, e = .returned u ∧ Post P w0 ι h.length K u w') a'.defers .returning w' := fun ⟨vs, k1, k2⟩ => by
    rw [q4]
    refine leaves_marks ns w' q3 q5 q6 fun w2 hr2 => ?_
    obtain ⟨u, r1, r2⟩ := results_sound hres hr2 k1
    exact ⟨u, r1, u, rfl, resVal vs, h', ι', k2, q1, q2, r2, hr2.hr⟩
  have hq : ∀ {p : Prop}, (match resAll σ' h' rs with | some vs => K (resVal vs) h' | none => False) → ∃ vs, resAll σ' h' rs = some vs ∧ K (resVal vs) h' := fun hm => by
    split at hm
    · rename_i vs e; exact ⟨vs, e, hm⟩
    · exact hm.elim
  cases x with
  | ex i => exact q.elim
  | nrm => exact key (hq (p := True) q)
  | ret => exact key (hq (p := True) q)

end
end Go.Pw
