/- The abstract logic in which the functions of the program are walked, part 29. No condition. -/
import Derived.Test.YtkpafafiaicfpaaPwTm
set_option linter.unusedSimpArgs false
set_option linter.unusedVariables false
set_option linter.unusedSectionVars false
/-! Arguments as they come in: slices and structs of numbers. -/
namespace Go.Pw

theorem flat_sub {q : Nat} : ∀ (xs : List (List Value)) (i : Nat) (x : List Value), (∀ y ∈ xs, y.length = q) → xs[i]? = some x → subN (i * q) q xs.flatten = some x
  | [], i, x, _, e => by simp at e
  | y :: xs, 0, x, hq, e => by
    simp at e; subst e
    have hy := hq y (by simp)
    unfold subN
    rw [if_pos (by simp; omega)]
    simp [← hy]
  | y :: xs, i + 1, x, hq, e => by
    have hy := hq y (by simp)
    have ih := flat_sub xs i x (fun z hz => hq z (by simp [hz])) (by simpa using e)
    unfold subN at ih ⊢
    split at ih
    · rename_i hle
      rw [if_pos (by rw [List.flatten_cons, List.length_append, Nat.add_mul]; omega)]
      rw [← ih]
      congr 2
      rw [List.flatten_cons, List.drop_append, hy, Nat.add_mul, Nat.one_mul, Nat.add_sub_cancel, List.drop_of_length_le (by omega), List.nil_append]
    · cases ih
theorem SlA.flat {h : AH} {q b : Nat} {xs : List (List Value)} (hr : rdc h b = some xs.flatten) (hq : ∀ y ∈ xs, y.length = q) : SlA h q (some ⟨b, 0, none⟩) xs := fun i x e =>
  ⟨b, 0, xs.flatten, rfl, hr, by rw [Nat.zero_add]; exact flat_sub xs i x hq e⟩

/-- The kinds of the numbers of which a type is made, if it is of such alone. -/
def tilesI (rec : TypeId → Option (List IntKind)) : List Field → Option (List IntKind)
  | [] => some []
  | f :: r => (rec f.type).bind fun a => (tilesI rec r).map fun b => a ++ b
def flatI (P : Program) : Nat → TypeId → Option (List IntKind)
  | 0, _ => none
  | d + 1, t => match P.underlying t with
    | some (.int k) => some [k]
    | some (.struct fs) => tilesI (flatI P d) fs.toList
    | _ => none
/-- Numbers of some kinds. -/
def NumsI : List IntKind → List Value → List Int → Prop
  | [], [], [] => True
  | k :: ks, .int k' n :: vs, m :: ns => k' = k ∧ m = n ∧ (Lit.int k n).wf = true ∧ NumsI ks vs ns
  | _, _, _ => False
theorem NumsI.app : ∀ {ks ls : List IntKind} {vs ws : List Value} {ns ms : List Int}, NumsI ks vs ns → NumsI ls ws ms → NumsI (ks ++ ls) (vs ++ ws) (ns ++ ms)
  | [], _, [], _, [], _, _, h => h
  | _ :: _, _, .int _ _ :: _, _, _ :: _, _, ⟨h1, h2, h3, h4⟩, h => ⟨h1, h2, h3, h4.app h⟩
  | [], _, _ :: _, _, _, _, h, _ => h.elim
  | [], _, [], _, _ :: _, _, h, _ => h.elim
  | _ :: _, _, [], _, _, _, h, _ => h.elim
  | _ :: _, _, .int _ _ :: _, _, [], _, h, _ => h.elim

section
variable {P : Program} {h : AH}
theorem flatI_typ : ∀ (d : Nat) {t : TypeId} {ks : List IntKind} {cs : List Value}, flatI P d t = some ks → TypA P h d t cs → ∃ ns, NumsI ks cs ns
  | 0, _, _, _, hf, _ => by simp [flatI] at hf
  | d + 1, t, ks, cs, hf, ht => by
    unfold flatI at hf
    unfold TypA at ht
    split at hf
    · rename_i k hu
      rw [hu] at ht
      obtain ⟨n, rfl, hw⟩ := ht
      cases hf
      exact ⟨[n], rfl, rfl, hw, trivial⟩
    · rename_i fs hu
      rw [hu] at ht
      obtain ⟨parts, rfl, hp⟩ := ht
      have key : ∀ (l : List Field) (ks : List IntKind) (ps : List (List Value)), tilesI (flatI P d) l = some ks → all2 (fun f p => p.length = P.cellsOf f.type ∧ TypA P h d f.type p) l ps → ∃ ns, NumsI ks ps.flatten ns := by
        intro l
        induction l with
        | nil =>
          intro ks ps hk hp
          cases ps with
          | nil => simp [tilesI] at hk; subst hk; exact ⟨[], trivial⟩
          | cons p ps => exact hp.elim
        | cons f l ih =>
          intro ks ps hk hp
          cases ps with
          | nil => exact hp.elim
          | cons p ps =>
            simp only [tilesI, Option.bind_eq_some_iff, Option.map_eq_some_iff] at hk
            obtain ⟨a, h1, b, h2, rfl⟩ := hk
            obtain ⟨ns, e1⟩ := flatI_typ d h1 hp.1.2
            obtain ⟨ms, e2⟩ := ih b ps h2 hp.2
            exact ⟨ns ++ ms, by rw [List.flatten_cons]; exact e1.app e2⟩
      exact key _ _ _ hf hp
    · cases hf

/-- A slice that came in. -/
theorem arg_slice {d : Nat} {t e : TypeId} {v : Value} (hu : P.underlying t = some (.slice e)) (ha : ArgA P h (d + 1) t v) :
    ∃ (xs : List (List Value)) (a : Option Addr) (c : Nat), v = .slice a xs.length c ∧ xs.length ≤ maxLen ∧ SlA h (P.cellsOf e) a xs ∧ ∀ x ∈ xs, x.length = P.cellsOf e ∧ TypA P h d e x := by
  obtain ⟨cs, hc, ht, rfl⟩ := ha
  unfold TypA at ht
  rw [hu] at ht
  unfold argV
  rw [hu]
  simp only at ht ⊢
  rcases ht with rfl | ⟨b, len, cap, rows, rfl, h1, h2, h3, h4, h5⟩
  · exact ⟨[], none, 0, rfl, by simp, fun i x e => by simp at e, fun x hx => by simp at hx⟩
  · refine ⟨rows.take len, some ⟨b, 0, none⟩, cap, ?_, ?_, ?_, fun x hx => h5 x (List.mem_of_mem_take hx)⟩
    · simp only [List.headD_cons, List.length_take, h4]
      rw [Nat.min_eq_left h1]
    · simp only [List.length_take]; omega
    · intro i x e
      have hx : rows[i]? = some x := by
        rw [List.getElem?_take] at e
        split at e <;> first | exact e | cases e
      refine ⟨b, 0, rows.flatten, rfl, rdc_of_cells h3, ?_⟩
      rw [Nat.zero_add]
      exact flat_sub rows i x (fun y hy => (h5 y hy).1) hx

theorem list_choose {α β : Type} {enc : β → α} {p : β → Prop} : ∀ (xs : List α), (∀ x ∈ xs, ∃ s, x = enc s ∧ p s) → ∃ l : List β, xs = l.map enc ∧ ∀ s ∈ l, p s
  | [], _ => ⟨[], rfl, fun s hs => by simp at hs⟩
  | x :: xs, h => by
    obtain ⟨s, rfl, hp⟩ := h x (by simp)
    obtain ⟨l, rfl, hl⟩ := list_choose xs fun y hy => h y (by simp [hy])
    exact ⟨s :: l, rfl, fun t ht => by
      rcases List.mem_cons.1 ht with rfl | ht
      · exact hp
      · exact hl t ht⟩
end
end Go.Pw
