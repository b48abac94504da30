/- Contracts of functions of the program, and what follows of them; each theorem states its conditions. -/
import Derived.Test.YtkpafafiaicfpaaPwEv
import Derived.Test.YtkpafafiaicfpaaZFl
set_option linter.unusedSimpArgs false
set_option linter.unusedVariables false
set_option linter.unusedSectionVars false
/-! Contracts of what all of a seat's functions use. -/
namespace Go.Proofs.Ytkpafafiaicfpaa
open Go.Pw

abbrev spV (a b : Int) : Value := .agg [.int .i64 a, .int .i64 b].toArray
theorem mixed : Try.prog.follows .mixedOrders = true := by kernel_rfl

/-- The number of the first element with something. -/
def fstI {α : Type} (pd : α → Bool) (xs : List α) : Int := match xs.findIdx? pd with
  | some i => i
  | none => -1
theorem take_no {α : Type} {pd : α → Bool} {xs : List α} {k : Nat} (hlt : k < xs.length) (hno : ∀ x ∈ xs.take k, pd x = false) (e : pd xs[k] = false) : ∀ x ∈ xs.take (k + 1), pd x = false := by
  rw [List.take_succ_eq_append_getElem hlt]
  intro x hx
  rcases List.mem_append.1 hx with hx | hx
  · exact hno x hx
  · simp at hx; subst hx; exact e
theorem fstI_no {α : Type} {pd : α → Bool} {xs : List α} (hno : ∀ x ∈ xs, pd x = false) : fstI pd xs = -1 := by
  have : xs.findIdx? pd = none := List.findIdx?_eq_none_iff.2 hno
  simp [fstI, this]
theorem fstI_at {α : Type} {pd : α → Bool} {xs : List α} {k : Nat} (hlt : k < xs.length) (hno : ∀ x ∈ xs.take k, pd x = false) (e : pd xs[k] = true) : fstI pd xs = k := by
  have : xs.findIdx? pd = some k := List.findIdx?_eq_some_iff_getElem.2 ⟨hlt, e, fun j hj => by
    have := hno xs[j] (List.mem_take_iff_getElem.2 ⟨j, by omega, rfl⟩)
    simp [this]⟩
  simp [fstI, this]
theorem fstI_any {α : Type} {pd : α → Bool} {xs : List α} : decide (0 ≤ fstI pd xs) = xs.any pd := by
  unfold fstI
  cases e : xs.findIdx? pd with
  | none =>
    have h1 := List.findIdx?_eq_none_iff.1 e
    rw [List.any_eq_false.2 (fun x hx => by simp [h1 x hx])]
    rfl
  | some i =>
    obtain ⟨h1, h2, _⟩ := List.findIdx?_eq_some_iff_getElem.1 e
    rw [List.any_eq_true.2 ⟨xs[i], List.getElem_mem h1, h2⟩]
    simp

/-- Where a search by halves ends. -/
def srchN (pr : Int → Bool) : Nat → Int → Int → Int
  | 0, i, _ => i
  | f + 1, i, j => if i < j then (if pr ((i + j) / 2) = true then srchN pr f i ((i + j) / 2) else srchN pr f ((i + j) / 2 + 1) j) else i
theorem srchN_succ (pr : Int → Bool) (f : Nat) (i j : Int) : srchN pr (f + 1) i j = if i < j then (if pr ((i + j) / 2) = true then srchN pr f i ((i + j) / 2) else srchN pr f ((i + j) / 2 + 1) j) else i := rfl
theorem srchN_spec (pr : Int → Bool) : ∀ (f : Nat) (i j : Int), i ≤ j → j - i ≤ f → (i ≤ srchN pr f i j ∧ srchN pr f i j ≤ j) ∧ (srchN pr f i j = i ∨ pr (srchN pr f i j - 1) = false) ∧ (srchN pr f i j = j ∨ pr (srchN pr f i j) = true)
  | 0, i, j, h1, h2 => by
    have : i = j := by omega
    subst this
    exact ⟨⟨Int.le_refl _, Int.le_refl _⟩, .inl rfl, .inl rfl⟩
  | f + 1, i, j, h1, h2 => by
    unfold srchN
    by_cases hij : i < j
    · rw [if_pos hij]
      by_cases hp : pr ((i + j) / 2) = true
      · rw [if_pos hp]
        obtain ⟨a, b, c⟩ := srchN_spec pr f i ((i + j) / 2) (by omega) (by omega)
        refine ⟨⟨a.1, by omega⟩, b, ?_⟩
        rcases c with c | c
        · right; rw [c]; exact hp
        · exact .inr c
      · rw [if_neg hp]
        obtain ⟨a, b, c⟩ := srchN_spec pr f ((i + j) / 2 + 1) j (by omega) (by omega)
        refine ⟨⟨by omega, a.2⟩, ?_, c⟩
        rcases b with b | b
        · right; rw [b, Int.add_sub_cancel]; simpa using hp
        · exact .inr b
    · rw [if_neg hij]
      have : i = j := by omega
      subst this
      exact ⟨⟨Int.le_refl _, Int.le_refl _⟩, .inl rfl, .inl rfl⟩
theorem srchN_more (pr : Int → Bool) : ∀ (f : Nat) (i j : Int), j - i ≤ f → srchN pr (f + 1) i j = srchN pr f i j
  | 0, i, j, h => by
    have : ¬ i < j := by omega
    simp [srchN, this]
  | f + 1, i, j, h => by
    by_cases hij : i < j
    · have e1 := srchN_more pr f i ((i + j) / 2) (by omega)
      have e2 := srchN_more pr f ((i + j) / 2 + 1) j (by omega)
      have e3 := srchN_succ pr (f + 1) i j
      have e4 := srchN_succ pr f i j
      rw [if_pos hij] at e3 e4
      rw [e3, e4, e1, e2]
    · have e3 := srchN_succ pr (f + 1) i j
      have e4 := srchN_succ pr f i j
      rw [if_neg hij] at e3 e4
      rw [e3, e4]
theorem srchN_eq (pr : Int → Bool) (i j : Int) {f : Nat} (g : Nat) (h : j - i ≤ f) : srchN pr (f + g) i j = srchN pr f i j := by
  induction g with
  | zero => rfl
  | succ g ih => rw [← ih]; exact srchN_more pr (f + g) i j (by omega)
theorem srchN_any (pr : Int → Bool) (i j : Int) {f g : Nat} (h1 : j - i ≤ f) (h2 : j - i ≤ g) : srchN pr f i j = srchN pr g i j := by
  rcases Nat.le_total f g with h | h
  · obtain ⟨d, rfl⟩ := Nat.exists_eq_add_of_le h
    exact (srchN_eq pr i j d h1).symm
  · obtain ⟨d, rfl⟩ := Nat.exists_eq_add_of_le h
    exact srchN_eq pr i j d h2
theorem srchN_t {pr : Int → Bool} {n i j : Int} (h1 : i < j) (h : srchN pr (j - i).toNat i j = srchN pr n.toNat 0 n) (hp : pr ((i + j) / 2) = true) : srchN pr ((i + j) / 2 - i).toNat i ((i + j) / 2) = srchN pr n.toNat 0 n := by
  rw [← h, srchN_any pr i j (g := (j - i).toNat + 1) (by omega) (by omega), srchN, if_pos h1, if_pos hp]
  exact srchN_any pr _ _ (by omega) (by omega)
theorem srchN_f {pr : Int → Bool} {n i j : Int} (h1 : i < j) (h : srchN pr (j - i).toNat i j = srchN pr n.toNat 0 n) (hp : pr ((i + j) / 2) = false) : srchN pr (j - ((i + j) / 2 + 1)).toNat ((i + j) / 2 + 1) j = srchN pr n.toNat 0 n := by
  rw [← h, srchN_any pr i j (g := (j - i).toNat + 1) (by omega) (by omega), srchN, if_pos h1, if_neg (by simp [hp])]
  exact srchN_any pr _ _ (by omega) (by omega)

theorem w29 {n : Int} {f : Value} {h : AH} (pr : Int → Bool) (hn : 0 ≤ n ∧ n ≤ 2 ^ 62) (hf : ∀ i, 0 ≤ i → i < n → ACallV Try.prog f [.int .i64 i] h fun v h' => h' = h ∧ v = .bool (pr i)) :
    ACalls Try.prog 29 [.int .i64 n, f] h fun v h' => h' = h ∧ v = .int .i64 (srchN pr n.toNat 0 n) := by
  refine ACalls.of fun K hK => good_sound gd29 rfl (run_sound mixed ?_)
  simp (disch := first | omega | (simp only [List.length_cons, List.length_nil, Nat.reduceAdd, Nat.reduceLeDiff, Nat.zero_add]; done)) only [c29, evs1, evs2, evs3, evs4, evs5, evs6, evs7, evs8, Nat.reduceEqDiff, Nat.reduceBEq, Nat.reduceAdd, Nat.reduceMul, Nat.reduceLeDiff, Nat.reduceLT, ↓reduceIte, reduceCtorEq, Int.reduceLT, Int.reduceLE, Int.reduceNeg, Int.reduceAdd, Int.reduceSub, Int.reduceMul, Int.reduceEq, Int.reduceToNat, if_true, if_false]
  refine loopR_of mixed (X := Int × Int) (fun x => (0 ≤ x.1 ∧ x.1 ≤ x.2 ∧ x.2 ≤ n) ∧ srchN pr (x.2 - x.1).toNat x.1 x.2 = srchN pr n.toNat 0 n) (fun x => (x.2 - x.1).toNat) (fun x => [(5, .int .i64 x.1), (6, .int .i64 x.2), (1, f)]) (fun _ => h) (0, n) ⟨by simp; omega, by simp⟩ ?_ rfl ?_
  · (repeat' (first | exact subT_nil | refine subT_cons ?_ ?_)) <;> first | rfl | (simp only [lk_at, Nat.reduceBEq, lkB_t, lkB_f]; push_cast; rfl)
  rintro ⟨i, j⟩ ⟨⟨h1, h2, h3⟩, h4⟩
  dsimp only at h1 h2 h3 h4
  (try simp (disch := first | omega | (simp only [List.length_cons, List.length_nil, Nat.reduceAdd, Nat.reduceLeDiff, Nat.zero_add]; done)) only [evs1, evs2, evs3, evs4, evs5, evs6, evs7, evs8, Nat.reduceEqDiff, Nat.reduceBEq, Nat.reduceAdd, Nat.reduceMul, Nat.reduceLeDiff, Nat.reduceLT, ↓reduceIte, reduceCtorEq, Int.reduceLT, Int.reduceLE, Int.reduceNeg, Int.reduceAdd, Int.reduceSub, Int.reduceMul, Int.reduceEq, Int.reduceToNat, if_true, if_false]) <;> repeat' (first | ((first | refine callvR_y mixed ?_ | refine uR_step mixed ?_) <;> simp (disch := first | omega | (simp only [List.length_cons, List.length_nil, Nat.reduceAdd, Nat.reduceLeDiff, Nat.zero_add]; done)) only [evs1, evs2, evs3, evs4, evs5, evs6, evs7, evs8, Nat.reduceEqDiff, Nat.reduceBEq, Nat.reduceAdd, Nat.reduceMul, Nat.reduceLeDiff, Nat.reduceLT, ↓reduceIte, reduceCtorEq, Int.reduceLT, Int.reduceLE, Int.reduceNeg, Int.reduceAdd, Int.reduceSub, Int.reduceMul, Int.reduceEq, Int.reduceToNat, if_true, if_false]) | ((first | refine gR_part (fun e => ?_) (fun e => ?_) | refine gR_partN (fun e => ?_) (fun e => ?_) | refine cR_part (fun e => ?_) (fun e => ?_) | refine cR_partN (fun e => ?_) (fun e => ?_)) <;> simp (disch := first | omega | (simp only [List.length_cons, List.length_nil, Nat.reduceAdd, Nat.reduceLeDiff, Nat.zero_add]; done)) only [e, evs1, evs2, evs3, evs4, evs5, evs6, evs7, evs8, Nat.reduceEqDiff, Nat.reduceBEq, Nat.reduceAdd, Nat.reduceMul, Nat.reduceLeDiff, Nat.reduceLT, ↓reduceIte, reduceCtorEq, Int.reduceLT, Int.reduceLE, Int.reduceNeg, Int.reduceAdd, Int.reduceSub, Int.reduceMul, Int.reduceEq, Int.reduceToNat, if_true, if_false]))
  · refine callvR_eq (hf ((i + j) / 2) (by omega) (by omega)) ?_
    simp (disch := first | omega | (simp only [List.length_cons, List.length_nil, Nat.reduceAdd, Nat.reduceLeDiff, Nat.zero_add]; done)) only [evs1, evs2, evs3, evs4, evs5, evs6, evs7, evs8, Nat.reduceEqDiff, Nat.reduceBEq, Nat.reduceAdd, Nat.reduceMul, Nat.reduceLeDiff, Nat.reduceLT, ↓reduceIte, reduceCtorEq, Int.reduceLT, Int.reduceLE, Int.reduceNeg, Int.reduceAdd, Int.reduceSub, Int.reduceMul, Int.reduceEq, Int.reduceToNat, if_true, if_false]
    refine cR_split (fun e2 => ?_) (fun e2 => ?_) <;> simp (disch := first | omega | (simp only [List.length_cons, List.length_nil, Nat.reduceAdd, Nat.reduceLeDiff, Nat.zero_add]; done)) only [evs1, evs2, evs3, evs4, evs5, evs6, evs7, evs8, Nat.reduceEqDiff, Nat.reduceBEq, Nat.reduceAdd, Nat.reduceMul, Nat.reduceLeDiff, Nat.reduceLT, ↓reduceIte, reduceCtorEq, Int.reduceLT, Int.reduceLE, Int.reduceNeg, Int.reduceAdd, Int.reduceSub, Int.reduceMul, Int.reduceEq, Int.reduceToNat, if_true, if_false]
    · ((first | refine round_endJ (((i + j) / 2 + 1, j)) ?_ ?_ ?_ rfl ?_ | refine round_end0 (((i + j) / 2 + 1, j)) ?_ ?_ ?_ rfl ?_); exact (⟨⟨by omega, by omega, h3⟩, srchN_f (by omega) h4 (by simpa using e2)⟩); (first | omega | (dsimp only; omega) | (simp; omega)); ((repeat' (first | exact subT_nil | refine subT_cons ?_ ?_)) <;> first | rfl | (simp only [lk_at, Nat.reduceBEq, lkB_t, lkB_f]; push_cast; rfl)); (repeat' (first | exact trivial | exact .inl rfl | exact .inr rfl | (refine .inr ?_; simp [okV]; done) | (refine .inr ?_; simp [okV]; omega) | refine ⟨?_, ?_⟩)))
    · ((first | refine round_endJ ((i, (i + j) / 2)) ?_ ?_ ?_ rfl ?_ | refine round_end0 ((i, (i + j) / 2)) ?_ ?_ ?_ rfl ?_); exact (⟨⟨h1, by omega, by omega⟩, srchN_t (by omega) h4 (by simpa using e2)⟩); (first | omega | (dsimp only; omega) | (simp; omega)); ((repeat' (first | exact subT_nil | refine subT_cons ?_ ?_)) <;> first | rfl | (simp only [lk_at, Nat.reduceBEq, lkB_t, lkB_f]; push_cast; rfl)); (repeat' (first | exact trivial | exact .inl rfl | exact .inr rfl | (refine .inr ?_; simp [okV]; done) | (refine .inr ?_; simp [okV]; omega) | refine ⟨?_, ?_⟩)))
  · have e3 : i = j := by omega
    subst e3
    exact hK _ _ ⟨rfl, by rw [← h4]; simp [srchN]⟩
end Go.Proofs.Ytkpafafiaicfpaa
