/- The abstract logic in which the functions of the program are walked, part 4. No condition. -/
import Derived.Test.YtkpafafiaicfpaaPwC
import Derived.WalkKit
import Derived.Laws.CopyRow
import Derived.Laws.Cells
set_option linter.unusedSimpArgs false
set_option linter.unusedVariables false
set_option linter.unusedSectionVars false
/-! The abstract logic, part D: what an operation gives abstractly stands for what it gives in the model. -/
namespace Go.Pw
open Go.RowKit (Below)

def OpsR (ι : Inj) (ρ : Operand → Value) : List Operand → List Value → Prop
  | [], [] => True
  | x :: xs, v :: vs => VR ι v (ρ x) ∧ OpsR ι ρ xs vs
  | _, _ => False

theorem OpsR.mono {ι ι' : Inj} (hl : Le ι ι') {ρ : Operand → Value} : ∀ {xs : List Operand} {vs : List Value}, OpsR ι ρ xs vs → OpsR ι' ρ xs vs
  | [], [], _ => trivial
  | _ :: _, _ :: _, h => ⟨h.1.mono hl, OpsR.mono hl h.2⟩
  | [], _ :: _, h => h.elim
  | _ :: _, [], h => h.elim

theorem OpsR.length {ι : Inj} {ρ : Operand → Value} : ∀ {xs : List Operand} {vs : List Value}, OpsR ι ρ xs vs → xs.length = vs.length
  | [], [], _ => rfl
  | _ :: _, _ :: _, h => by simp [OpsR.length h.2]
  | [], _ :: _, h => h.elim
  | _ :: _, [], h => h.elim

theorem OpsR.get {ι : Inj} {ρ : Operand → Value} : ∀ {xs : List Operand} {vs : List Value}, OpsR ι ρ xs vs → ∀ (i : Nat) (v : Value), vs[i]? = some v → ∃ x, xs[i]? = some x ∧ VR ι v (ρ x)
  | [], [], _, i, v, h => by simp at h
  | x :: xs, u :: us, h, i, v, e => by
    cases i with
    | zero => simp at e; subst e; exact ⟨x, rfl, h.1⟩
    | succ i => simpa using OpsR.get h.2 i v (by simpa using e)
  | [], _ :: _, h, _, _, _ => h.elim
  | _ :: _, [], h, _, _, _ => h.elim

/-- Lists of cells that stand for one another. -/
def CR (ι : Inj) (cs cs' : List Value) : Prop := cs.length = cs'.length ∧ ∀ (i : Nat) (v v' : Value), cs[i]? = some v → cs'[i]? = some v' → VR ι v v'

theorem CR.mono {ι ι' : Inj} (hl : Le ι ι') {x x' : List Value} (h : CR ι x x') : CR ι' x x' := ⟨h.1, fun i v v' e e' => (h.2 i v v' e e').mono hl⟩
theorem CR.ex {ι : Inj} {x x' : List Value} (h : CR ι x x') (i : Nat) (v : Value) (e : x[i]? = some v) : ∃ v', x'[i]? = some v' ∧ VR ι v v' := by
  have hi : i < x'.length := by rw [← h.1]; exact (List.getElem?_eq_some_iff.1 e).1
  exact ⟨x'[i], List.getElem?_eq_getElem hi, h.2 i v _ e (List.getElem?_eq_getElem hi)⟩
theorem CR.of_ex {ι : Inj} {x x' : List Value} (hl : x.length = x'.length) (h : ∀ (i : Nat) (v : Value), x[i]? = some v → ∃ v', x'[i]? = some v' ∧ VR ι v v') : CR ι x x' :=
  ⟨hl, fun i v v' e e' => by obtain ⟨u, h1, h2⟩ := h i v e; rw [h1] at e'; cases e'; exact h2⟩
theorem CR.app {ι : Inj} {x x' y y' : List Value} (h : CR ι x x') (k : CR ι y y') : CR ι (x ++ y) (x' ++ y') := by
  refine ⟨by simp [h.1, k.1], fun i v v' e e' => ?_⟩
  by_cases hi : i < x.length
  · rw [List.getElem?_append_left hi] at e
    rw [List.getElem?_append_left (by rw [← h.1]; exact hi)] at e'
    exact h.2 i v v' e e'
  · rw [List.getElem?_append_right (by omega)] at e
    rw [List.getElem?_append_right (by rw [← h.1]; omega), ← h.1] at e'
    exact k.2 _ v v' e e'
theorem CR.take {ι : Inj} {x x' : List Value} (h : CR ι x x') (n : Nat) : CR ι (x.take n) (x'.take n) := by
  refine ⟨by simp [h.1], fun i v v' e e' => ?_⟩
  rw [List.getElem?_take] at e e'
  split at e
  · rename_i hi; rw [if_pos hi] at e'; exact h.2 i v v' e e'
  · cases e
theorem CR.drop {ι : Inj} {x x' : List Value} (h : CR ι x x') (n : Nat) : CR ι (x.drop n) (x'.drop n) := by
  refine ⟨by simp [h.1], fun i v v' e e' => ?_⟩
  rw [List.getElem?_drop] at e e'
  exact h.2 _ v v' e e'
theorem CR.set {ι : Inj} {x x' : List Value} (h : CR ι x x') (n : Nat) {v v' : Value} (hv : VR ι v v') : CR ι (x.set n v) (x'.set n v') := by
  refine ⟨by simp [h.1], fun i u u' e e' => ?_⟩
  rw [List.getElem?_set] at e e'
  split at e
  · rename_i hn
    rw [if_pos hn] at e'
    split at e
    · split at e'
      · cases e; cases e'; exact hv
      · cases e'
    · cases e
  · rename_i hn; rw [if_neg hn] at e'; exact h.2 i u u' e e'
theorem CR.spl {ι : Inj} : ∀ {ys ys' x x' : List Value} (o : Nat), CR ι x x' → CR ι ys ys' → CR ι (spl x o ys) (spl x' o ys')
  | [], [], _, _, _, h, _ => h
  | y :: ys, y' :: ys', x, x', o, h, k => by
    have h0 : VR ι y y' := k.2 0 y y' rfl rfl
    have h1 : CR ι ys ys' := ⟨by simpa using k.1, fun i v v' e e' => k.2 (i + 1) v v' (by simpa using e) (by simpa using e')⟩
    exact CR.spl (o + 1) (h.set o h0) h1
  | [], _ :: _, _, _, _, _, k => by exact absurd k.1 (by simp)
  | _ :: _, [], _, _, _, _, k => by exact absurd k.1 (by simp)

theorem CR.plain {ι : Inj} {zs : List Value} (h : zs.all (plainV 6) = true) : CR ι zs zs :=
  ⟨rfl, fun i v v' e e' => by rw [e] at e'; cases e'; exact VR.plain 6 v (List.all_eq_true.1 h v (List.mem_of_getElem? e))⟩

theorem CR.replicate {ι : Inj} {z z' : List Value} (h : CR ι z z') : ∀ n, CR ι (List.replicate n z).flatten (List.replicate n z').flatten
  | 0 => ⟨rfl, fun i v v' e => by simp at e⟩
  | n + 1 => by simp only [List.replicate_succ, List.flatten_cons]; exact h.app (CR.replicate h n)

theorem VR.cells {ι : Inj} {v v' : Value} (h : VR ι v v') : CR ι (cel v) (cel v') := by
  cases h with
  | agg hx hX => exact ⟨by simpa [cel, Value.cells] using hx, fun i a b e e' => hX i a b (by simpa [cel, Value.cells] using e) (by simpa [cel, Value.cells] using e')⟩
  | ptr k => exact ⟨rfl, fun i a b e e' => by cases i <;> simp [cel, Value.cells] at e e'; subst e; subst e'; exact .ptr k⟩
  | slice a b c d => exact ⟨rfl, fun i x y e e' => by cases i <;> simp [cel, Value.cells] at e e'; subst e; subst e'; exact .slice a b c d⟩
  | map k => exact ⟨rfl, fun i a b e e' => by cases i <;> simp [cel, Value.cells] at e e'; subst e; subst e'; exact .map k⟩
  | func a b c d f => exact ⟨rfl, fun i x y e e' => by cases i <;> simp [cel, Value.cells] at e e'; subst e; subst e'; exact .func a b c d f⟩
  | iface t k => exact ⟨rfl, fun i a b e e' => by cases i <;> simp [cel, Value.cells] at e e'; subst e; subst e'; exact .iface t k⟩
  | tuple a b => exact ⟨rfl, fun i x y e e' => by cases i <;> simp [cel, Value.cells] at e e'; subst e; subst e'; exact .tuple a b⟩
  | bool b => exact ⟨rfl, fun i x y e e' => by cases i <;> simp [cel, Value.cells] at e e'; subst e; subst e'; exact .bool b⟩
  | int k n => exact ⟨rfl, fun i x y e e' => by cases i <;> simp [cel, Value.cells] at e e'; subst e; subst e'; exact .int k n⟩
  | str s => exact ⟨rfl, fun i x y e e' => by cases i <;> simp [cel, Value.cells] at e e'; subst e; subst e'; exact .str s⟩
  | pnil => exact ⟨rfl, fun i x y e e' => by cases i <;> simp [cel, Value.cells] at e e'; subst e; subst e'; exact .pnil⟩
  | snil l c => exact ⟨rfl, fun i x y e e' => by cases i <;> simp [cel, Value.cells] at e e'; subst e; subst e'; exact .snil l c⟩
  | mnil => exact ⟨rfl, fun i x y e e' => by cases i <;> simp [cel, Value.cells] at e e'; subst e; subst e'; exact .mnil⟩
  | nilFunc => exact ⟨rfl, fun i x y e e' => by cases i <;> simp [cel, Value.cells] at e e'; subst e; subst e'; exact .nilFunc⟩
  | nilIface => exact ⟨rfl, fun i x y e e' => by cases i <;> simp [cel, Value.cells] at e e'; subst e; subst e'; exact .nilIface⟩

theorem VR.agg_of {ι : Inj} {x x' : List Value} (h : CR ι x x') : VR ι (.agg x.toArray) (.agg x'.toArray) :=
  .agg (by simpa using h.1) fun i v v' e e' => h.2 i v v' (by simpa using e) (by simpa using e')
theorem VR.agg_to {ι : Inj} {x x' : Array Value} (h : VR ι (.agg x) (.agg x')) : CR ι x.toList x'.toList := by
  cases h with | agg hx hX => exact ⟨by simpa using hx, fun i v v' e e' => hX i v v' (by simpa using e) (by simpa using e')⟩

theorem oneV_of {ι : Inj} {v v' : Value} (h : VR ι v v') (k : oneV v = true) : v'.oneCell' = true := by
  cases h <;> first | rfl | (simp [oneV] at k)

/-! ### The types' facts, as runs -/
section
variable {P : Program}
theorem run_sizeOf {t : TypeId} {n : Nat} (h : sizeC P t = some n) (w : World) : (sizeOf t).run P w = .ok n w := by
  unfold sizeC at h
  cases hi : P.info? t with
  | none => simp [hi] at h
  | some i => simp [hi] at h; simp [sizeOf, typeInfo, hi, h]
theorem run_isAgg {t : TypeId} {g : Bool} (h : aggC P t = some g) (w : World) : (isAgg t).run P w = .ok g w := by
  unfold aggC at h
  cases hu : P.underlying t with
  | none => simp [hu] at h
  | some d =>
    simp only [hu, Option.map_some, Option.some.injEq] at h
    simp only [isAgg, Sem.run_bind, run_underlying hu, Result.andThen_ok]
    cases d <;> simp at h <;> simp [← h]
theorem zeroC_spec {t : TypeId} {z : List Value} (h : zeroC P t = some z) : ∃ i v, P.info? t = some i ∧ i.zero = some v ∧ v.cells.toList = z ∧ z.all (plainV 6) = true ∧ v.cells.size = i.size := by
  unfold zeroC at h
  cases hi : P.info? t with
  | none => simp [hi] at h
  | some i =>
    cases hz : i.zero with
    | none => simp [hi, hz] at h
    | some v =>
      simp only [hi, hz, Option.bind_some, Option.map_some, Option.getD_some, Option.ite_none_right_eq_some, Bool.and_eq_true, Option.some.injEq, beq_iff_eq] at h
      obtain ⟨⟨h1, h2⟩, h3⟩ := h
      refine ⟨i, v, rfl, hz, h3, ?_, h2⟩
      rw [← h3]; exact h1
theorem run_zeroValue {t : TypeId} {i : TypeInfo} {v : Value} (h : P.info? t = some i) (hz : i.zero = some v) (w : World) : (zeroValue t).run P w = .ok v w := by
  simp [zeroValue, typeInfo, h, hz]
end

/-! ### Memory -/
section
variable {FC : Nat → Code → Option AC} {w0 : Fr} {w : World} {ι : Inj} {h : AH}

theorem HR.rdc (hr : HR FC w0 ι h w) {b : Nat} {cs : List Value} (hc : rdc h b = some cs) {b' o : Nat} {K : Option Nat} (hi : ι b = some (b', o, K)) :
    ∃ C e fz, w.heap[b']? = some (.cells C e fz) ∧ ∀ (i : Nat) (v : Value), cs[i]? = some v → ∃ v', C[o + i]? = some v' ∧ VR ι v v' := by
  unfold Pw.rdc at hc
  cases hb : h[b]? with
  | none => simp [hb] at hc
  | some k =>
    cases k <;> simp [hb] at hc
    · subst hc
      obtain ⟨_, C, e, fz, h1, h2, _⟩ := hr.blk b _ _ hb hi
      exact ⟨C, e, fz, h1, h2⟩
    · subst hc
      obtain ⟨h0, _, C, e, K, _, h1, _, h2⟩ := hr.blk b _ _ hb hi
      simp only at h0
      subst h0
      exact ⟨C, e, (0, 0), h1, fun i v hv => by simpa using h2 i v hv⟩

theorem addr_add (b o n : Nat) : (⟨b, o, none⟩ : Addr).add n = ⟨b, o + n, none⟩ := by unfold Addr.add; split <;> simp_all

theorem AdR.add {ι : Inj} {a a' : Addr} (h : AdR ι a a') (n : Nat) : AdR ι (a.add n) (a'.add n) := by
  obtain ⟨h1, h2, o, K, h3, h4⟩ := h
  obtain ⟨b, f, s⟩ := a
  obtain ⟨b', f', s'⟩ := a'
  simp only at h1 h2 h3 h4
  subst h1; subst h2
  rw [addr_add, addr_add]
  exact ⟨rfl, rfl, o, K, h3, by simp; omega⟩

theorem HR.cell (hr : HR FC w0 ι h w) {a a' : Addr} (ha : AdR ι a a') {v : Value} (hv : rd1 h a = some v) : ∃ v', w.cell? a' = some v' ∧ VR ι v v' := by
  obtain ⟨h1, h2, o, K, h3, h4⟩ := ha
  unfold rd1 at hv
  rw [if_pos h1] at hv
  cases hc : Pw.rdc h a.block with
  | none => simp [hc] at hv
  | some cs =>
    simp only [hc, Option.bind_some] at hv
    obtain ⟨C, e, fz, k1, k2⟩ := hr.rdc hc h3
    obtain ⟨v', k3, k4⟩ := k2 _ _ hv
    exact ⟨v', by simp [World.cell?, k1, h2, h4, k3], k4⟩

theorem HR.cellsN (hr : HR FC w0 ι h w) {a a' : Addr} (ha : AdR ι a a') {n : Nat} {cs : List Value} (hv : rdN h a n = some cs) :
    ∃ cs' : List Value, CR ι cs cs' ∧ cs'.length = n ∧ ∀ (j : Nat) (v : Value), cs'[j]? = some v → w.cell? (a'.add j) = some v := by
  obtain ⟨h1, h2, o, K, h3, h4⟩ := ha
  unfold rdN at hv
  rw [if_pos h1] at hv
  cases hc : Pw.rdc h a.block with
  | none => simp [hc] at hv
  | some ds =>
    simp only [hc, Option.bind_some] at hv
    split at hv
    · rename_i hle
      cases hv
      obtain ⟨C, e, fz, k1, k2⟩ := hr.rdc hc h3
      have hC : ∀ j, j < n → ∃ v v', ds[a.off + j]? = some v ∧ C[a'.off + j]? = some v' ∧ VR ι v v' := fun j hj => by
        have hd : a.off + j < ds.length := by omega
        obtain ⟨v', k3, k4⟩ := k2 _ _ (List.getElem?_eq_getElem hd)
        exact ⟨_, v', List.getElem?_eq_getElem hd, by rw [h4, Nat.add_assoc]; exact k3, k4⟩
      have hlen : ∀ m, m ≤ n → m ≤ ((C.toList.drop a'.off).take n).length := fun m hm => by
        cases m with
        | zero => omega
        | succ m =>
          obtain ⟨v, v', _, e2, _⟩ := hC m (by omega)
          have := (Array.getElem?_eq_some_iff.1 e2).1
          simp; omega
      have hl2 : ((C.toList.drop a'.off).take n).length = n := by
        have := hlen n (Nat.le_refl n)
        simp at this ⊢; omega
      refine ⟨(C.toList.drop a'.off).take n, ?_, hl2, fun j v hj => ?_⟩
      · refine CR.of_ex (by rw [hl2]; simp; omega) fun i v e => ?_
        rw [List.getElem?_take] at e
        split at e
        · rename_i hi
          rw [List.getElem?_drop] at e
          obtain ⟨u, v', e1, e2, e3⟩ := hC i hi
          rw [e1] at e; cases e
          exact ⟨v', by rw [List.getElem?_take, if_pos hi, List.getElem?_drop]; simpa using e2, e3⟩
        · cases e
      · rw [List.getElem?_take] at hj
        split at hj
        · rename_i hi
          rw [List.getElem?_drop] at hj
          obtain ⟨b', f', s'⟩ := a'
          simp only at h2 h4 hj k1 ⊢
          subst h2
          rw [addr_add]
          simp [World.cell?, k1]
          simpa using hj
        · cases hj
    · cases hv

theorem spl_eq : ∀ (vs cs : List Value) (o : Nat), o + vs.length ≤ cs.length → spl cs o vs = cs.take o ++ vs ++ cs.drop (o + vs.length)
  | [], cs, o, _ => by simp [spl]
  | v :: vs, cs, o, hl => by
    have e := list_seg_step cs o v vs (by simp at hl ⊢; omega)
    simp only [spl]
    rw [spl_eq vs (cs.set o v) (o + 1) (by simp at hl ⊢; omega)]
    simpa [Nat.add_assoc] using e

theorem spl_length : ∀ (vs cs : List Value) (o : Nat), (spl cs o vs).length = cs.length
  | [], _, _ => rfl
  | v :: vs, cs, o => by simp only [spl]; rw [spl_length]; simp

end
end Go.Pw
