/- The abstract logic in which the functions of the program are walked, part 6. No condition. -/
import Derived.Test.YtkpafafiaicfpaaPwE
set_option linter.unusedSimpArgs false
set_option linter.unusedVariables false
set_option linter.unusedSectionVars false
/-! The abstract logic, part F: the soundness of 'sem', operation by operation. -/
namespace Go.Pw
open Go.RowKit (Below)

section
variable {FC : Nat → Code → Option AC} {P : Program} {w0 : Fr} {w : World} {ι : Inj} {h : AH}

theorem eqGuard_run (op : BinOp) (t : TypeId) (x y : Operand) (a b : Value) (h1 : a ≠ .nilIface) (h2 : (∃ u, a = .agg u) → (∃ v, b = .agg v) → P.eqGuardType P.depth t = false ∨ (op ≠ .eql ∧ op ≠ .neq)) :
    (eqGuard op t x y a b).run P w = .ok () w := by
  cases a <;> first
    | (cases op <;> rfl)
    | (exact absurd rfl h1)
    | skip
  cases b <;> first
    | (cases op <;> rfl)
    | skip
  rename_i u v
  rcases h2 ⟨_, rfl⟩ ⟨_, rfl⟩ with h | ⟨h, h'⟩
  · cases op <;> first | rfl | simp [eqGuard, h]
  · cases op <;> first | rfl | exact absurd rfl h | exact absurd rfl h'

theorem binOp_int (e : EqK) (op : BinOp) (t : TypeId) (k k' : IntKind) (a b : Int) (v : Value) (h : binA op e (.int k a) (.int k' b) = some v) : (binOp op t (.int k a) (.int k' b)).run P w = .ok v w := by
  cases op <;> simp only [binA] at h
  case shl =>
    unfold shiftA at h
    split at h
    · cases h
    · rename_i hb; cases h; simp [binOp, Op.shift, hb]
  case shr =>
    unfold shiftA at h
    split at h
    · cases h
    · rename_i hb; cases h; simp [binOp, Op.shift, hb]
  all_goals
    split at h
    · rename_i hk
      subst hk
      simp only [intA, bitsA, Option.map_some] at h
      first
        | (cases h; simp [binOp, Op.intArith, Op.intCmp, Op.intBits]; done)
        | (split at h
           · cases h
           · rename_i hb; cases h; simp [binOp, Op.intDiv, hb])
    · cases h

theorem eqKind_struct {op : BinOp} {t : TypeId} {ks : List Bool} (h : eqKind P op t = .struct ks) :
    P.eqGuardType P.depth t = false ∧ flatEq P 8 t = some ks ∧ ∃ fs, P.underlying t = some (.struct fs) := by
  unfold eqKind at h
  split at h
  all_goals first
    | (split at h
       · cases h
       · cases h
       · split at h
         · cases h
         · rename_i hg
           cases hf : flatEq P 8 t with
           | none => simp [hf] at h
           | some l =>
             simp only [hf, Option.map_some, Option.getD_some, EqK.struct.injEq] at h
             subst h
             exact ⟨by simpa using hg, rfl, _, by assumption⟩
       · cases h)
    | cases h

theorem eqKind_bools {op : BinOp} {t : TypeId} (h : eqKind P op t = .bools) : P.underlying t = some .bool := by
  unfold eqKind at h
  split at h
  all_goals first
    | (split at h
       · cases h
       · assumption
       · split at h
         · cases h
         · cases hf : flatEq P 8 t <;> simp [hf] at h
       · cases h)
    | cases h

theorem eqKind_nil {op : BinOp} {t : TypeId} (h : eqKind P op t = .nilSlice) : ∃ e, P.underlying t = some (.slice e) := by
  unfold eqKind at h
  split at h
  all_goals first
    | (split at h
       · exact ⟨_, by assumption⟩
       · cases h
       · split at h
         · cases h
         · cases hf : flatEq P 8 t <;> simp [hf] at h
       · cases h)
    | cases h

theorem VR.self_eq {v v' u : Value} (h : VR ι v v') (hu : VR ι u u) (e : v = u) : True := trivial

/-- Numbers and bools stand for themselves. -/
theorem CR.eqCells_same : ∀ (ks : List Bool) (xs ys xs' ys' : List Value) (r : Bool), CR ι xs xs' → CR ι ys ys' → eqCells ks xs ys = some r → eqCells ks xs' ys' = some r
  | ks, xs, ys, xs', ys', r, hx, hy, h => by
    have tl : ∀ {a b : Value} {l m : List Value}, CR ι (a :: l) (b :: m) → VR ι a b ∧ CR ι l m := fun {a b l m} hh =>
      ⟨hh.2 0 a b rfl rfl, by simpa using hh.1, fun i v v' e e' => hh.2 (i + 1) v v' (by simpa using e) (by simpa using e')⟩
    rcases eqCells_inv h with ⟨rfl, rfl, rfl, rfl⟩ | ⟨ks', k, x, a', y, b', q, rfl, rfl, rfl, h1, rfl⟩ | ⟨ks', x, a', y, b', q, rfl, rfl, rfl, h1, rfl⟩
    · obtain rfl : xs' = [] := List.eq_nil_of_length_eq_zero (by simpa using hx.1.symm)
      obtain rfl : ys' = [] := List.eq_nil_of_length_eq_zero (by simpa using hy.1.symm)
      rfl
    · cases xs' with
      | nil => exact absurd hx.1 (by simp)
      | cons u us =>
        cases ys' with
        | nil => exact absurd hy.1 (by simp)
        | cons v vs =>
          obtain ⟨p1, p2⟩ := tl hx
          obtain ⟨q1, q2⟩ := tl hy
          cases p1; cases q1
          simp [eqCells, CR.eqCells_same ks' a' b' us vs q p2 q2 h1]
    · cases xs' with
      | nil => exact absurd hx.1 (by simp)
      | cons u us =>
        cases ys' with
        | nil => exact absurd hy.1 (by simp)
        | cons v vs =>
          obtain ⟨p1, p2⟩ := tl hx
          obtain ⟨q1, q2⟩ := tl hy
          cases p1; cases q1
          simp [eqCells, CR.eqCells_same ks' a' b' us vs q p2 q2 h1]
termination_by ks => ks.length

theorem binOp_eql_slice (t : TypeId) (a b : Option Addr) (l c m d : Nat) : binOp .eql t (.slice a l c) (.slice b m d) = (Op.equal t (.slice a l c) (.slice b m d) >>= fun r => pure (.bool r)) := rfl
theorem binOp_neq_slice (t : TypeId) (a b : Option Addr) (l c m d : Nat) : binOp .neq t (.slice a l c) (.slice b m d) = (Op.equal t (.slice a l c) (.slice b m d) >>= fun r => pure (.bool (!r))) := rfl
theorem run_eq_nilSlice {t e : TypeId} (he : P.underlying t = some (.slice e)) {a : Option Addr} {l c m d : Nat} : (Op.equal t (.slice a l c) (.slice none m d)).run P w = .ok a.isNone w := by
  have g : ∀ n, (Op.equalIn (n + 1) t (.slice a l c) (.slice none m d)).run P w = .ok a.isNone w := fun n => by
    cases a <;> simp only [Op.equalIn, Sem.run_bind, run_underlying he, Result.andThen_ok] <;> rfl
  exact g 9999

theorem binOp_sound (op : BinOp) (t : TypeId) (x y : Operand) {a b a' b' v : Value} (ha : VR ι a a') (hb : VR ι b b') (h : binA op (eqKind P op t) a b = some v) :
    (do eqGuard op t x y a' b'; binOp op t a' b').run P w = .ok v w := by
  have hg : ∀ {u : Value}, binA op (eqKind P op t) .nilIface u ≠ some v := fun {u} hh => by simp [binA] at hh
  have ha' : a' ≠ .nilIface := fun e => by subst e; cases ha; exact hg h
  have hguard : (eqGuard op t x y a' b').run P w = .ok () w := by
    refine eqGuard_run op t x y a' b' ha' fun ⟨u, e1⟩ ⟨u', e2⟩ => ?_
    subst e1; subst e2
    cases ha; cases hb
    by_cases hop : op = .eql ∨ op = .neq
    · refine .inl ?_
      cases hk : eqKind P op t with
      | struct ks => exact (eqKind_struct hk).1
      | _ => rw [hk] at h; rcases hop with rfl | rfl <;> simp [binA] at h
    · exact .inr ⟨fun e => hop (.inl e), fun e => hop (.inr e)⟩
  simp only [Sem.run_bind, hguard, Result.andThen_ok]
  cases ha <;> cases hb <;> try (simp [binA] at h; done)
  case int.int k n k' n' => exact binOp_int _ op t k k' n n' v h
  case bool.bool p q =>
    simp only [binA] at h
    split at h
    · rename_i hk
      cases h
      simp [binOp, Op.equal, Op.maxDepth, run_equalIn_bool' w 9999 t p q (eqKind_bools hk)]
    · rename_i hk
      cases h
      simp [binOp, Op.equal, Op.maxDepth, run_equalIn_bool' w 9999 t p q (eqKind_bools hk)]
    · cases h
  case agg.agg p p' hp hP q q' hq hQ =>
    have c1 : CR ι p.toList p'.toList := VR.agg_to (.agg hp hP)
    have c2 : CR ι q.toList q'.toList := VR.agg_to (.agg hq hQ)
    simp only [binA] at h
    split at h
    · rename_i ks hk
      obtain ⟨_, hf, hst⟩ := eqKind_struct hk
      simp only [Option.map_eq_some_iff] at h
      obtain ⟨r, h1, rfl⟩ := h
      have h2 := CR.eqCells_same ks _ _ _ _ r c1 c2 h1
      have := flatEq_sound 8 t ks hf 10000 (by omega) (.agg p') (.agg q') r w (by simpa [cel, Value.cells] using h2) (fun _ => ⟨_, _, rfl, rfl⟩) (fun hh => absurd hst hh)
      rw [run_eql_struct, this]; rfl
    · rename_i ks hk
      obtain ⟨_, hf, hst⟩ := eqKind_struct hk
      simp only [Option.map_eq_some_iff] at h
      obtain ⟨r, h1, rfl⟩ := h
      have h2 := CR.eqCells_same ks _ _ _ _ r c1 c2 h1
      have := flatEq_sound 8 t ks hf 10000 (by omega) (.agg p') (.agg q') r w (by simpa [cel, Value.cells] using h2) (fun _ => ⟨_, _, rfl, rfl⟩) (fun hh => absurd hst hh)
      rw [run_neq_struct, this]; rfl
    · cases h
  case snil.snil l c l' c' =>
    simp only [binA] at h
    split at h
    · rename_i hk
      cases h
      obtain ⟨e, he⟩ := eqKind_nil hk
      rw [binOp_eql_slice, Sem.run_bind, run_eq_nilSlice he]; rfl
    · rename_i hk
      cases h
      obtain ⟨e, he⟩ := eqKind_nil hk
      rw [binOp_neq_slice, Sem.run_bind, run_eq_nilSlice he]; rfl
    · cases h
  case slice.snil =>
    simp only [binA] at h
    split at h
    · rename_i hk
      cases h
      obtain ⟨e, he⟩ := eqKind_nil hk
      rw [binOp_eql_slice, Sem.run_bind, run_eq_nilSlice he]; rfl
    · rename_i hk
      cases h
      obtain ⟨e, he⟩ := eqKind_nil hk
      rw [binOp_neq_slice, Sem.run_bind, run_eq_nilSlice he]; rfl
    · cases h

theorem OpsR.one {ρ : Operand → Value} {x : Operand} {vs : List Value} (h : OpsR ι ρ [x] vs) : ∃ v, vs = [v] ∧ VR ι v (ρ x) := by
  cases vs with
  | nil => exact h.elim
  | cons v vs => cases vs with
    | nil => exact ⟨v, rfl, h.1⟩
    | cons _ _ => exact h.2.elim
theorem OpsR.two {ρ : Operand → Value} {x y : Operand} {vs : List Value} (h : OpsR ι ρ [x, y] vs) : ∃ v u, vs = [v, u] ∧ VR ι v (ρ x) ∧ VR ι u (ρ y) := by
  cases vs with
  | nil => exact h.elim
  | cons v vs => obtain ⟨u, rfl, hu⟩ := OpsR.one h.2; exact ⟨v, u, rfl, h.1, hu⟩
theorem OpsR.three {ρ : Operand → Value} {x y z : Operand} {vs : List Value} (h : OpsR ι ρ [x, y, z] vs) : ∃ v u t, vs = [v, u, t] ∧ VR ι v (ρ x) ∧ VR ι u (ρ y) ∧ VR ι t (ρ z) := by
  cases vs with
  | nil => exact h.elim
  | cons v vs => obtain ⟨u, t, rfl, hu, ht⟩ := OpsR.two h.2; exact ⟨v, u, t, rfl, h.1, hu, ht⟩
theorem OpsR.nil {ρ : Operand → Value} {vs : List Value} (h : OpsR ι ρ [] vs) : vs = [] := by
  cases vs with
  | nil => rfl
  | cons _ _ => exact h.elim
theorem OpsR.split {ρ : Operand → Value} : ∀ {xs ys : List Operand} {vs : List Value}, OpsR ι ρ (xs ++ ys) vs → ∃ us ws, vs = us ++ ws ∧ us.length = xs.length ∧ OpsR ι ρ xs us ∧ OpsR ι ρ ys ws
  | [], ys, vs, h => ⟨[], vs, rfl, rfl, trivial, h⟩
  | x :: xs, ys, v :: vs, h => by obtain ⟨us, ws, rfl, h1, h2, h3⟩ := OpsR.split h.2; exact ⟨v :: us, ws, rfl, by simp [h1], ⟨h.1, h2⟩, h3⟩
  | _ :: _, _, [], h => h.elim
theorem OpsR.arr {ρ : Operand → Value} : ∀ {xs : List Operand} {vs : List Value}, OpsR ι ρ xs vs → CR ι vs (xs.map ρ)
  | [], [], _ => ⟨rfl, fun i v v' e => by simp at e⟩
  | x :: xs, v :: vs, h => by
    have := OpsR.arr h.2
    refine ⟨by simp [this.1], fun i u u' e e' => ?_⟩
    cases i with
    | zero => simp at e e'; subst e; subst e'; exact h.1
    | succ i => exact this.2 i u u' (by simpa using e) (by simpa using e')
  | [], _ :: _, h => h.elim
  | _ :: _, [], h => h.elim

end
end Go.Pw
