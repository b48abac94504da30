/- Contracts of functions of the program, and what follows of them; each theorem states its conditions. -/
import Derived.Test.YtkpafafiaicfpaaZRa
set_option linter.unusedSimpArgs false
set_option linter.unusedVariables false
set_option linter.unusedSectionVars false
/-! Contracts of the references 01 and 02: curves. -/
namespace Go.Proofs.Ytkpafafiaicfpaa
open Go.Pw

theorem w6 {c : List Tn} {a : Option Addr} {cc : Nat} {h : AH} (hS : SlA h 2 a (c.map Tn.cells)) (hn : c.length ≤ 2 ^ 63 - 1) : ACalls Try.prog 6 [.slice a c.length cc] h fun v h' => h' = h ∧ v = .bool (decide (CurveOk c)) := by
  refine ACalls.of fun K hK => good_sound gd6 rfl (run_sound mixed ?_)
  by_cases hl : 2 ≤ c.length ∧ c.length ≤ 8
  · obtain ⟨b, o, cs, rfl, hb, hs⟩ := hS.at (by simp; omega)
    have g0 := hs 0 (tat c 0).cells (by rw [List.getElem?_map, List.getElem?_eq_getElem (by omega), tat_get]; rfl)
    have g1 := hs (c.length - 1) (tat c (c.length - 1)).cells (by rw [List.getElem?_map, List.getElem?_eq_getElem (by omega), tat_get]; rfl)
    have g2 := subN_get g0 (j := 0) (by omega)
    have g3 := subN_get g1 (j := 0) (by omega)
    simp only [Nat.zero_mul, Nat.add_zero, Tn.cells, List.getElem?_cons_zero] at g2 g3
    have e0 : ((c.length : Int) - 1).toNat = c.length - 1 := by omega
    have hl1 : 2 ≤ (c.length : Int) ∧ (c.length : Int) ≤ 8 := by omega
    (try simp (disch := first | omega | (simp only [List.length_cons, List.length_nil, Nat.reduceAdd, Nat.reduceLeDiff, Nat.zero_add]; done)) only [c6, hb, g2, g3, e0, hl1, evs1, evs2, evs3, evs4, evs5, evs6, evs7, evs8, Nat.reduceEqDiff, Nat.reduceBEq, Nat.reduceAdd, Nat.reduceMul, Nat.reduceLeDiff, Nat.reduceLT, ↓reduceIte, reduceCtorEq, Int.reduceLT, Int.reduceLE, Int.reduceNeg, Int.reduceAdd, Int.reduceSub, Int.reduceMul, Int.reduceEq, Int.reduceToNat, if_true, if_false]) <;> repeat' (first | (refine callR_eq (w17 _ _ _ _) ?_; simp (disch := first | omega | (simp only [List.length_cons, List.length_nil, Nat.reduceAdd, Nat.reduceLeDiff, Nat.zero_add]; done)) only [c6, hb, g2, g3, e0, hl1, evs1, evs2, evs3, evs4, evs5, evs6, evs7, evs8, Nat.reduceEqDiff, Nat.reduceBEq, Nat.reduceAdd, Nat.reduceMul, Nat.reduceLeDiff, Nat.reduceLT, ↓reduceIte, reduceCtorEq, Int.reduceLT, Int.reduceLE, Int.reduceNeg, Int.reduceAdd, Int.reduceSub, Int.reduceMul, Int.reduceEq, Int.reduceToNat, if_true, if_false]) | ((first | refine callvR_y mixed ?_ | refine uR_step mixed ?_) <;> simp (disch := first | omega | (simp only [List.length_cons, List.length_nil, Nat.reduceAdd, Nat.reduceLeDiff, Nat.zero_add]; done)) only [c6, hb, g2, g3, e0, hl1, evs1, evs2, evs3, evs4, evs5, evs6, evs7, evs8, Nat.reduceEqDiff, Nat.reduceBEq, Nat.reduceAdd, Nat.reduceMul, Nat.reduceLeDiff, Nat.reduceLT, ↓reduceIte, reduceCtorEq, Int.reduceLT, Int.reduceLE, Int.reduceNeg, Int.reduceAdd, Int.reduceSub, Int.reduceMul, Int.reduceEq, Int.reduceToNat, if_true, if_false]) | ((first | refine gR_part (fun e => ?_) (fun e => ?_) | refine gR_partN (fun e => ?_) (fun e => ?_) | refine cR_part (fun e => ?_) (fun e => ?_) | refine cR_partN (fun e => ?_) (fun e => ?_)) <;> simp (disch := first | omega | (simp only [List.length_cons, List.length_nil, Nat.reduceAdd, Nat.reduceLeDiff, Nat.zero_add]; done)) only [e, c6, hb, g2, g3, e0, hl1, evs1, evs2, evs3, evs4, evs5, evs6, evs7, evs8, Nat.reduceEqDiff, Nat.reduceBEq, Nat.reduceAdd, Nat.reduceMul, Nat.reduceLeDiff, Nat.reduceLT, ↓reduceIte, reduceCtorEq, Int.reduceLT, Int.reduceLE, Int.reduceNeg, Int.reduceAdd, Int.reduceSub, Int.reduceMul, Int.reduceEq, Int.reduceToNat, if_true, if_false]))
    · refine loopR_of mixed (X := Nat) (fun k => k ≤ c.length ∧ ∀ i, i < k → ¬ badAt c i) (fun k => c.length - k) (fun k => [(3, .int .i64 k), (0, .slice (some ⟨b, o, none⟩) c.length cc)]) (fun _ => h) 0 ⟨Nat.zero_le _, fun i hi => by omega⟩ ?_ rfl ?_
      · (repeat' (first | exact subT_nil | refine subT_cons ?_ ?_)) <;> first | rfl | (simp only [lk_at, Nat.reduceBEq, lkB_t, lkB_f]; push_cast; rfl)
      rintro k ⟨hk, hno⟩
      (try simp (disch := first | omega | (simp only [List.length_cons, List.length_nil, Nat.reduceAdd, Nat.reduceLeDiff, Nat.zero_add]; done)) only [evs1, evs2, evs3, evs4, evs5, evs6, evs7, evs8, Nat.reduceEqDiff, Nat.reduceBEq, Nat.reduceAdd, Nat.reduceMul, Nat.reduceLeDiff, Nat.reduceLT, ↓reduceIte, reduceCtorEq, Int.reduceLT, Int.reduceLE, Int.reduceNeg, Int.reduceAdd, Int.reduceSub, Int.reduceMul, Int.reduceEq, Int.reduceToNat, if_true, if_false]) <;> repeat' (first | ((first | refine callvR_y mixed ?_ | refine uR_step mixed ?_) <;> simp (disch := first | omega | (simp only [List.length_cons, List.length_nil, Nat.reduceAdd, Nat.reduceLeDiff, Nat.zero_add]; done)) only [evs1, evs2, evs3, evs4, evs5, evs6, evs7, evs8, Nat.reduceEqDiff, Nat.reduceBEq, Nat.reduceAdd, Nat.reduceMul, Nat.reduceLeDiff, Nat.reduceLT, ↓reduceIte, reduceCtorEq, Int.reduceLT, Int.reduceLE, Int.reduceNeg, Int.reduceAdd, Int.reduceSub, Int.reduceMul, Int.reduceEq, Int.reduceToNat, if_true, if_false]) | ((first | refine gR_part (fun e => ?_) (fun e => ?_) | refine gR_partN (fun e => ?_) (fun e => ?_) | refine cR_part (fun e => ?_) (fun e => ?_) | refine cR_partN (fun e => ?_) (fun e => ?_)) <;> simp (disch := first | omega | (simp only [List.length_cons, List.length_nil, Nat.reduceAdd, Nat.reduceLeDiff, Nat.zero_add]; done)) only [e, evs1, evs2, evs3, evs4, evs5, evs6, evs7, evs8, Nat.reduceEqDiff, Nat.reduceBEq, Nat.reduceAdd, Nat.reduceMul, Nat.reduceLeDiff, Nat.reduceLT, ↓reduceIte, reduceCtorEq, Int.reduceLT, Int.reduceLE, Int.reduceNeg, Int.reduceAdd, Int.reduceSub, Int.reduceMul, Int.reduceEq, Int.reduceToNat, if_true, if_false]))
      · have hlt : k < c.length := by omega
        have f0 := hs k (tat c k).cells (by rw [List.getElem?_map, List.getElem?_eq_getElem hlt, tat_get]; rfl)
        have f1 := hs (k - 1) (tat c (k - 1)).cells (by rw [List.getElem?_map, List.getElem?_eq_getElem (by omega), tat_get]; rfl)
        have f2 := subN_get f1 (j := 0) (by omega)
        have f3 := subN_get f1 (j := 1) (by omega)
        have f4 := subN_get f0 (j := 0) (by omega)
        have f5 := subN_get f0 (j := 1) (by omega)
        simp only [Nat.add_zero, Tn.cells, List.getElem?_cons_zero, List.getElem?_cons_succ] at f2 f3 f4 f5
        have e1 : ((k : Int) - 1).toNat = k - 1 := by omega
        (try simp (disch := first | omega | (simp only [List.length_cons, List.length_nil, Nat.reduceAdd, Nat.reduceLeDiff, Nat.zero_add]; done)) only [toNat_cast, hb, f4, f5, f2, f3, e1, evs1, evs2, evs3, evs4, evs5, evs6, evs7, evs8, Nat.reduceEqDiff, Nat.reduceBEq, Nat.reduceAdd, Nat.reduceMul, Nat.reduceLeDiff, Nat.reduceLT, ↓reduceIte, reduceCtorEq, Int.reduceLT, Int.reduceLE, Int.reduceNeg, Int.reduceAdd, Int.reduceSub, Int.reduceMul, Int.reduceEq, Int.reduceToNat, if_true, if_false]) <;> repeat' (first | (refine callR_eq (w17 _ _ _ _) ?_; simp (disch := first | omega | (simp only [List.length_cons, List.length_nil, Nat.reduceAdd, Nat.reduceLeDiff, Nat.zero_add]; done)) only [toNat_cast, hb, f4, f5, f2, f3, e1, evs1, evs2, evs3, evs4, evs5, evs6, evs7, evs8, Nat.reduceEqDiff, Nat.reduceBEq, Nat.reduceAdd, Nat.reduceMul, Nat.reduceLeDiff, Nat.reduceLT, ↓reduceIte, reduceCtorEq, Int.reduceLT, Int.reduceLE, Int.reduceNeg, Int.reduceAdd, Int.reduceSub, Int.reduceMul, Int.reduceEq, Int.reduceToNat, if_true, if_false]) | ((first | refine callvR_y mixed ?_ | refine uR_step mixed ?_) <;> simp (disch := first | omega | (simp only [List.length_cons, List.length_nil, Nat.reduceAdd, Nat.reduceLeDiff, Nat.zero_add]; done)) only [toNat_cast, hb, f4, f5, f2, f3, e1, evs1, evs2, evs3, evs4, evs5, evs6, evs7, evs8, Nat.reduceEqDiff, Nat.reduceBEq, Nat.reduceAdd, Nat.reduceMul, Nat.reduceLeDiff, Nat.reduceLT, ↓reduceIte, reduceCtorEq, Int.reduceLT, Int.reduceLE, Int.reduceNeg, Int.reduceAdd, Int.reduceSub, Int.reduceMul, Int.reduceEq, Int.reduceToNat, if_true, if_false]) | ((first | refine gR_part (fun e => ?_) (fun e => ?_) | refine gR_partN (fun e => ?_) (fun e => ?_) | refine cR_part (fun e => ?_) (fun e => ?_) | refine cR_partN (fun e => ?_) (fun e => ?_)) <;> simp (disch := first | omega | (simp only [List.length_cons, List.length_nil, Nat.reduceAdd, Nat.reduceLeDiff, Nat.zero_add]; done)) only [e, toNat_cast, hb, f4, f5, f2, f3, e1, evs1, evs2, evs3, evs4, evs5, evs6, evs7, evs8, Nat.reduceEqDiff, Nat.reduceBEq, Nat.reduceAdd, Nat.reduceMul, Nat.reduceLeDiff, Nat.reduceLT, ↓reduceIte, reduceCtorEq, Int.reduceLT, Int.reduceLE, Int.reduceNeg, Int.reduceAdd, Int.reduceSub, Int.reduceMul, Int.reduceEq, Int.reduceToNat, if_true, if_false]))
        all_goals first
          | (refine hK _ _ ⟨rfl, congrArg Value.bool (decide_eq_false fun hh => hh.2.2.2 k hlt ?_).symm⟩; unfold badAt; omega)
          | (have hgood : ¬ badAt c k := by unfold badAt; omega
             have hno' : ∀ i, i < k + 1 → ¬ badAt c i := fun i hi => by
               by_cases hik : i = k
               · rw [hik]; exact hgood
               · exact hno i (by omega)
             ((first | refine round_endJ (k + 1) ?_ ?_ ?_ rfl ?_ | refine round_end0 (k + 1) ?_ ?_ ?_ rfl ?_); exact (⟨hlt, hno'⟩); (first | omega | (dsimp only; omega) | (simp; omega)); ((repeat' (first | exact subT_nil | refine subT_cons ?_ ?_)) <;> first | rfl | (simp only [lk_at, Nat.reduceBEq, lkB_t, lkB_f]; push_cast; rfl)); (repeat' (first | exact trivial | exact .inl rfl | exact .inr rfl | (refine .inr ?_; simp [okV]; done) | (refine .inr ?_; simp [okV]; omega) | refine ⟨?_, ?_⟩))))
      · refine hK _ _ ⟨rfl, congrArg Value.bool (decide_eq_true ?_).symm⟩
        exact ⟨hl, by assumption, by assumption, fun i hi => hno i (by omega)⟩
    · refine hK _ _ ⟨rfl, congrArg Value.bool (decide_eq_false fun hh => ?_).symm⟩
      exact e hh.2.2.1
    · refine hK _ _ ⟨rfl, congrArg Value.bool (decide_eq_false fun hh => ?_).symm⟩
      exact e hh.2.1
  · have hl1 : ¬ (2 ≤ (c.length : Int) ∧ (c.length : Int) ≤ 8) := by omega
    (try simp (disch := first | omega | (simp only [List.length_cons, List.length_nil, Nat.reduceAdd, Nat.reduceLeDiff, Nat.zero_add]; done)) only [c6, hl1, evs1, evs2, evs3, evs4, evs5, evs6, evs7, evs8, Nat.reduceEqDiff, Nat.reduceBEq, Nat.reduceAdd, Nat.reduceMul, Nat.reduceLeDiff, Nat.reduceLT, ↓reduceIte, reduceCtorEq, Int.reduceLT, Int.reduceLE, Int.reduceNeg, Int.reduceAdd, Int.reduceSub, Int.reduceMul, Int.reduceEq, Int.reduceToNat, if_true, if_false]) <;> repeat' (first | (refine callR_eq (w17 _ _ _ _) ?_; simp (disch := first | omega | (simp only [List.length_cons, List.length_nil, Nat.reduceAdd, Nat.reduceLeDiff, Nat.zero_add]; done)) only [c6, hl1, evs1, evs2, evs3, evs4, evs5, evs6, evs7, evs8, Nat.reduceEqDiff, Nat.reduceBEq, Nat.reduceAdd, Nat.reduceMul, Nat.reduceLeDiff, Nat.reduceLT, ↓reduceIte, reduceCtorEq, Int.reduceLT, Int.reduceLE, Int.reduceNeg, Int.reduceAdd, Int.reduceSub, Int.reduceMul, Int.reduceEq, Int.reduceToNat, if_true, if_false]) | ((first | refine callvR_y mixed ?_ | refine uR_step mixed ?_) <;> simp (disch := first | omega | (simp only [List.length_cons, List.length_nil, Nat.reduceAdd, Nat.reduceLeDiff, Nat.zero_add]; done)) only [c6, hl1, evs1, evs2, evs3, evs4, evs5, evs6, evs7, evs8, Nat.reduceEqDiff, Nat.reduceBEq, Nat.reduceAdd, Nat.reduceMul, Nat.reduceLeDiff, Nat.reduceLT, ↓reduceIte, reduceCtorEq, Int.reduceLT, Int.reduceLE, Int.reduceNeg, Int.reduceAdd, Int.reduceSub, Int.reduceMul, Int.reduceEq, Int.reduceToNat, if_true, if_false]) | ((first | refine gR_part (fun e => ?_) (fun e => ?_) | refine gR_partN (fun e => ?_) (fun e => ?_) | refine cR_part (fun e => ?_) (fun e => ?_) | refine cR_partN (fun e => ?_) (fun e => ?_)) <;> simp (disch := first | omega | (simp only [List.length_cons, List.length_nil, Nat.reduceAdd, Nat.reduceLeDiff, Nat.zero_add]; done)) only [e, c6, hl1, evs1, evs2, evs3, evs4, evs5, evs6, evs7, evs8, Nat.reduceEqDiff, Nat.reduceBEq, Nat.reduceAdd, Nat.reduceMul, Nat.reduceLeDiff, Nat.reduceLT, ↓reduceIte, reduceCtorEq, Int.reduceLT, Int.reduceLE, Int.reduceNeg, Int.reduceAdd, Int.reduceSub, Int.reduceMul, Int.reduceEq, Int.reduceToNat, if_true, if_false]))
    refine hK _ _ ⟨rfl, congrArg Value.bool (decide_eq_false fun hh => ?_).symm⟩
    exact hl hh.1

theorem w13 (t u : Int) (h : AH) (ht : 0 ≤ t ∧ t ≤ 4000000000000000000) (hu : 1 ≤ u ∧ u ≤ 4000000000000000000) : ACalls Try.prog 13 [spV t u] h fun v h' => h' = h ∧ v = .int .i64 ((t + u - 1) / u) := by
  refine ACalls.gc ?_
  refine ACalls.of fun K hK => good_sound gd13 rfl (run_sound mixed ?_)
  have e1 : (t + u - 1).tdiv u = (t + u - 1) / u := Int.tdiv_eq_ediv_of_nonneg (by omega)
  have e2 : (t + u - 1) / u ≤ t + u - 1 := Int.ediv_le_self _ (by omega)
  have e3 : 0 ≤ (t + u - 1) / u := Int.ediv_nonneg (by omega) (by omega)
  (try simp (disch := first | omega | (simp only [List.length_cons, List.length_nil, Nat.reduceAdd, Nat.reduceLeDiff, Nat.zero_add]; done)) only [c13, spV, e1, evs1, evs2, evs3, evs4, evs5, evs6, evs7, evs8, Nat.reduceEqDiff, Nat.reduceBEq, Nat.reduceAdd, Nat.reduceMul, Nat.reduceLeDiff, Nat.reduceLT, ↓reduceIte, reduceCtorEq, Int.reduceLT, Int.reduceLE, Int.reduceNeg, Int.reduceAdd, Int.reduceSub, Int.reduceMul, Int.reduceEq, Int.reduceToNat, if_true, if_false]) <;> repeat' (first | ((first | refine callvR_y mixed ?_ | refine uR_step mixed ?_) <;> simp (disch := first | omega | (simp only [List.length_cons, List.length_nil, Nat.reduceAdd, Nat.reduceLeDiff, Nat.zero_add]; done)) only [c13, spV, e1, evs1, evs2, evs3, evs4, evs5, evs6, evs7, evs8, Nat.reduceEqDiff, Nat.reduceBEq, Nat.reduceAdd, Nat.reduceMul, Nat.reduceLeDiff, Nat.reduceLT, ↓reduceIte, reduceCtorEq, Int.reduceLT, Int.reduceLE, Int.reduceNeg, Int.reduceAdd, Int.reduceSub, Int.reduceMul, Int.reduceEq, Int.reduceToNat, if_true, if_false]) | ((first | refine gR_part (fun e => ?_) (fun e => ?_) | refine gR_partN (fun e => ?_) (fun e => ?_) | refine cR_part (fun e => ?_) (fun e => ?_) | refine cR_partN (fun e => ?_) (fun e => ?_)) <;> simp (disch := first | omega | (simp only [List.length_cons, List.length_nil, Nat.reduceAdd, Nat.reduceLeDiff, Nat.zero_add]; done)) only [e, c13, spV, e1, evs1, evs2, evs3, evs4, evs5, evs6, evs7, evs8, Nat.reduceEqDiff, Nat.reduceBEq, Nat.reduceAdd, Nat.reduceMul, Nat.reduceLeDiff, Nat.reduceLT, ↓reduceIte, reduceCtorEq, Int.reduceLT, Int.reduceLE, Int.reduceNeg, Int.reduceAdd, Int.reduceSub, Int.reduceMul, Int.reduceEq, Int.reduceToNat, if_true, if_false]))
  exact hK _ _ ⟨⟨_, rfl⟩, .inl rfl, rfl⟩
theorem w14 (t u : Int) (h : AH) (ht : 0 ≤ t ∧ t ≤ 4000000000000000000) (hu : 1 ≤ u ∧ u ≤ 4000000000000000000) : ACalls Try.prog 14 [spV t u] h fun v h' => h' = h ∧ v = .int .i64 (t / u) := by
  refine ACalls.gc ?_
  refine ACalls.of fun K hK => good_sound gd14 rfl (run_sound mixed ?_)
  have e1 : t.tdiv u = t / u := Int.tdiv_eq_ediv_of_nonneg (by omega)
  have e2 : t / u ≤ t := Int.ediv_le_self _ (by omega)
  have e3 : 0 ≤ t / u := Int.ediv_nonneg (by omega) (by omega)
  (try simp (disch := first | omega | (simp only [List.length_cons, List.length_nil, Nat.reduceAdd, Nat.reduceLeDiff, Nat.zero_add]; done)) only [c14, spV, e1, evs1, evs2, evs3, evs4, evs5, evs6, evs7, evs8, Nat.reduceEqDiff, Nat.reduceBEq, Nat.reduceAdd, Nat.reduceMul, Nat.reduceLeDiff, Nat.reduceLT, ↓reduceIte, reduceCtorEq, Int.reduceLT, Int.reduceLE, Int.reduceNeg, Int.reduceAdd, Int.reduceSub, Int.reduceMul, Int.reduceEq, Int.reduceToNat, if_true, if_false]) <;> repeat' (first | ((first | refine callvR_y mixed ?_ | refine uR_step mixed ?_) <;> simp (disch := first | omega | (simp only [List.length_cons, List.length_nil, Nat.reduceAdd, Nat.reduceLeDiff, Nat.zero_add]; done)) only [c14, spV, e1, evs1, evs2, evs3, evs4, evs5, evs6, evs7, evs8, Nat.reduceEqDiff, Nat.reduceBEq, Nat.reduceAdd, Nat.reduceMul, Nat.reduceLeDiff, Nat.reduceLT, ↓reduceIte, reduceCtorEq, Int.reduceLT, Int.reduceLE, Int.reduceNeg, Int.reduceAdd, Int.reduceSub, Int.reduceMul, Int.reduceEq, Int.reduceToNat, if_true, if_false]) | ((first | refine gR_part (fun e => ?_) (fun e => ?_) | refine gR_partN (fun e => ?_) (fun e => ?_) | refine cR_part (fun e => ?_) (fun e => ?_) | refine cR_partN (fun e => ?_) (fun e => ?_)) <;> simp (disch := first | omega | (simp only [List.length_cons, List.length_nil, Nat.reduceAdd, Nat.reduceLeDiff, Nat.zero_add]; done)) only [e, c14, spV, e1, evs1, evs2, evs3, evs4, evs5, evs6, evs7, evs8, Nat.reduceEqDiff, Nat.reduceBEq, Nat.reduceAdd, Nat.reduceMul, Nat.reduceLeDiff, Nat.reduceLT, ↓reduceIte, reduceCtorEq, Int.reduceLT, Int.reduceLE, Int.reduceNeg, Int.reduceAdd, Int.reduceSub, Int.reduceMul, Int.reduceEq, Int.reduceToNat, if_true, if_false]))
  exact hK _ _ ⟨⟨_, rfl⟩, .inl rfl, rfl⟩

/-! ### The curve at a ratio -/
def topA (c : List Tn) (i : Nat) (g cl : Int) : Int := (tat c i).b * ((tat c (i + 1)).r - (tat c i).r) * (g + cl) + ((tat c (i + 1)).b - (tat c i).b) * (1000 * g - (tat c i).r * (g + cl))
def undA (c : List Tn) (i : Nat) (g cl : Int) : Int := ((tat c (i + 1)).r - (tat c i).r) * (g + cl)
def IsIx (c : List Tn) (i : Nat) (g cl : Int) : Prop := i + 1 < c.length ∧ (i = 0 ∨ (tat c i).r * (g + cl) < 1000 * g) ∧ (i + 2 = c.length ∨ 1000 * g ≤ (tat c (i + 1)).r * (g + cl))

theorem mix_bdA {c : List Tn} (hc : CurveOk c) {i : Nat} {g cl A : Int} (hA : A ≤ 4000000000000) (hi : IsIx c i g cl) (hg : 0 ≤ g) (hcl : 0 ≤ cl) (h1 : 1 ≤ g + cl ∧ g + cl ≤ A) : (0 ≤ topA c i g cl ∧ topA c i g cl ≤ 400000 * A) ∧ (1 ≤ undA c i g cl ∧ undA c i g cl ≤ 1000 * A) ∧
    (0 ≤ (tat c i).b * ((tat c (i + 1)).r - (tat c i).r) ∧ (tat c i).b * ((tat c (i + 1)).r - (tat c i).r) ≤ 200000) ∧
    (0 ≤ (tat c i).b * ((tat c (i + 1)).r - (tat c i).r) * (g + cl) ∧ (tat c i).b * ((tat c (i + 1)).r - (tat c i).r) * (g + cl) ≤ 200000 * A) ∧
    (0 ≤ (tat c i).r * (g + cl) ∧ (tat c i).r * (g + cl) ≤ 1000 * A) ∧ 0 ≤ 1000 * g - (tat c i).r * (g + cl) ∧
    (0 ≤ ((tat c (i + 1)).b - (tat c i).b) * (1000 * g - (tat c i).r * (g + cl)) ∧ ((tat c (i + 1)).b - (tat c i).b) * (1000 * g - (tat c i).r * (g + cl)) ≤ 200000 * A) := by
  obtain ⟨h1', h2, h3⟩ := hi
  have b1 := hc.bd (i := i) (by omega)
  have b2 := hc.bd (i := i + 1) h1'
  have m1 := hc.mono (i + 1) i (by omega) h1'
  have hr0 : i = 0 → (tat c i).r = 0 := fun e => by rw [e]; exact hc.2.1
  unfold topA undA
  generalize tat c i = a at *
  generalize tat c (i + 1) = b at *
  have q1 : a.r < b.r := m1.2.2 (by omega)
  have q5 : 0 ≤ a.b * (b.r - a.r) ∧ a.b * (b.r - a.r) ≤ 200 * 1000 := ⟨Int.mul_nonneg (by omega) (by omega), Int.mul_le_mul (by omega) (by omega) (by omega) (by omega)⟩
  have q6 : 0 ≤ a.b * (b.r - a.r) * (g + cl) ∧ a.b * (b.r - a.r) * (g + cl) ≤ 200000 * A := ⟨Int.mul_nonneg q5.1 (by omega), Int.mul_le_mul (by omega) (by omega) (by omega) (by omega)⟩
  have q7 : 0 ≤ a.r * (g + cl) ∧ a.r * (g + cl) ≤ 1000 * A := ⟨Int.mul_nonneg (by omega) (by omega), Int.mul_le_mul (by omega) (by omega) (by omega) (by omega)⟩
  have q8 : 0 ≤ 1000 * g - a.r * (g + cl) := by
    rcases h2 with h2 | h2
    · rw [hr0 h2, Int.zero_mul]; omega
    · omega
  have q9 : 0 ≤ (b.b - a.b) * (1000 * g - a.r * (g + cl)) ∧ (b.b - a.b) * (1000 * g - a.r * (g + cl)) ≤ 200 * (1000 * A) := ⟨Int.mul_nonneg (by omega) q8, Int.mul_le_mul (by omega) (by omega) q8 (by omega)⟩
  have q10 : 1 * 1 ≤ (b.r - a.r) * (g + cl) ∧ (b.r - a.r) * (g + cl) ≤ 1000 * A := ⟨Int.mul_le_mul (by omega) (by omega) (by omega) (by omega), Int.mul_le_mul (by omega) (by omega) (by omega) (by omega)⟩
  omega

theorem w12 {c : List Tn} {a : Option Addr} {cc : Nat} {g cl : Int} {h : AH} (hS : SlA h 2 a (c.map Tn.cells)) (hc : CurveOk c) (hg : 0 ≤ g) (hcl : 0 ≤ cl) (h1 : 1 ≤ g + cl ∧ g + cl ≤ 4000000000000) :
    ACalls Try.prog 12 [.slice a c.length cc, .int .i64 g, .int .i64 cl] h fun v h' => h' = h ∧ ∃ i, IsIx c i g cl ∧ v = spV (topA c i g cl) (undA c i g cl) := by
  refine ACalls.gc ?_
  refine ACalls.of fun K hK => good_sound gd12 rfl (run_sound mixed ?_)
  have hl := hc.1
  obtain ⟨b, o, cs, rfl, hb, hs⟩ := hS.at (by simp; omega)
  have hg2 : 0 ≤ 1000 * g ∧ 1000 * g ≤ 4000000000000000 := by omega
  (try simp (disch := first | omega | (simp only [List.length_cons, List.length_nil, Nat.reduceAdd, Nat.reduceLeDiff, Nat.zero_add]; done)) only [c12, evs1, evs2, evs3, evs4, evs5, evs6, evs7, evs8, Nat.reduceEqDiff, Nat.reduceBEq, Nat.reduceAdd, Nat.reduceMul, Nat.reduceLeDiff, Nat.reduceLT, ↓reduceIte, reduceCtorEq, Int.reduceLT, Int.reduceLE, Int.reduceNeg, Int.reduceAdd, Int.reduceSub, Int.reduceMul, Int.reduceEq, Int.reduceToNat, if_true, if_false]) <;> repeat' (first | ((first | refine callvR_y mixed ?_ | refine uR_step mixed ?_) <;> simp (disch := first | omega | (simp only [List.length_cons, List.length_nil, Nat.reduceAdd, Nat.reduceLeDiff, Nat.zero_add]; done)) only [c12, evs1, evs2, evs3, evs4, evs5, evs6, evs7, evs8, Nat.reduceEqDiff, Nat.reduceBEq, Nat.reduceAdd, Nat.reduceMul, Nat.reduceLeDiff, Nat.reduceLT, ↓reduceIte, reduceCtorEq, Int.reduceLT, Int.reduceLE, Int.reduceNeg, Int.reduceAdd, Int.reduceSub, Int.reduceMul, Int.reduceEq, Int.reduceToNat, if_true, if_false]) | ((first | refine gR_part (fun e => ?_) (fun e => ?_) | refine gR_partN (fun e => ?_) (fun e => ?_) | refine cR_part (fun e => ?_) (fun e => ?_) | refine cR_partN (fun e => ?_) (fun e => ?_)) <;> simp (disch := first | omega | (simp only [List.length_cons, List.length_nil, Nat.reduceAdd, Nat.reduceLeDiff, Nat.zero_add]; done)) only [e, c12, evs1, evs2, evs3, evs4, evs5, evs6, evs7, evs8, Nat.reduceEqDiff, Nat.reduceBEq, Nat.reduceAdd, Nat.reduceMul, Nat.reduceLeDiff, Nat.reduceLT, ↓reduceIte, reduceCtorEq, Int.reduceLT, Int.reduceLE, Int.reduceNeg, Int.reduceAdd, Int.reduceSub, Int.reduceMul, Int.reduceEq, Int.reduceToNat, if_true, if_false]))
  refine loopR_of mixed (X := Nat) (fun k => k + 1 < c.length ∧ (k = 0 ∨ (tat c k).r * (g + cl) < 1000 * g)) (fun k => c.length - k) (fun k => [(8, .int .i64 ((k + 1 : Nat) : Int)), (7, .int .i64 (g + cl)), (6, .pointer (some ⟨h.length, 0, none⟩)), (0, .slice (some ⟨b, o, none⟩) c.length cc), (1, .int .i64 g), (2, .int .i64 cl)]) (fun _ => h ++ [.cells true [.int .i64 0, .int .i64 0]]) 0 ⟨by omega, .inl rfl⟩ ?_ rfl ?_
  · (repeat' (first | exact subT_nil | refine subT_cons ?_ ?_)) <;> first | rfl | (simp only [lk_at, Nat.reduceBEq, lkB_t, lkB_f]; push_cast; rfl)
  rintro k ⟨hk, hno⟩
  have f0 := hs k (tat c k).cells (by rw [List.getElem?_map, List.getElem?_eq_getElem (by omega), tat_get]; rfl)
  have f1 := hs (k + 1) (tat c (k + 1)).cells (by rw [List.getElem?_map, List.getElem?_eq_getElem (by omega), tat_get]; rfl)
  have f2 := subN_get f1 (j := 0) (by omega)
  simp only [Nat.add_zero, Tn.cells, List.getElem?_cons_zero, List.getElem?_cons_succ] at f2
  simp only [Tn.cells] at f0 f1
  have e1 : (((k + 1 : Nat) : Int) - 1).toNat = k := by omega
  have e2 : (((k + 1 : Nat) : Int)).toNat = k + 1 := rfl
  have b1 := hc.bd (i := k) (by omega)
  have b2 := hc.bd (i := k + 1) (by omega)
  have m1 := (hc.mono (k + 1) k (by omega) (by omega))
  have q7 : 0 ≤ (tat c (k + 1)).r * (g + cl) ∧ (tat c (k + 1)).r * (g + cl) ≤ 1000 * 4000000000000 := ⟨Int.mul_nonneg (by omega) (by omega), Int.mul_le_mul (by omega) (by omega) (by omega) (by omega)⟩
  have fin : IsIx c k g cl → _ := fun hix => mix_bdA hc (A := 4000000000000) (by omega) hix hg hcl h1
  (try simp (disch := first | omega | (simp only [List.length_cons, List.length_nil, Nat.reduceAdd, Nat.reduceLeDiff, Nat.zero_add]; done)) only [hb, rdc_old hb, f2, e1, e2, evs1, evs2, evs3, evs4, evs5, evs6, evs7, evs8, Nat.reduceEqDiff, Nat.reduceBEq, Nat.reduceAdd, Nat.reduceMul, Nat.reduceLeDiff, Nat.reduceLT, ↓reduceIte, reduceCtorEq, Int.reduceLT, Int.reduceLE, Int.reduceNeg, Int.reduceAdd, Int.reduceSub, Int.reduceMul, Int.reduceEq, Int.reduceToNat, if_true, if_false]) <;> repeat' (first | ((first | refine callvR_y mixed ?_ | refine uR_step mixed ?_) <;> simp (disch := first | omega | (simp only [List.length_cons, List.length_nil, Nat.reduceAdd, Nat.reduceLeDiff, Nat.zero_add]; done)) only [hb, rdc_old hb, f2, e1, e2, evs1, evs2, evs3, evs4, evs5, evs6, evs7, evs8, Nat.reduceEqDiff, Nat.reduceBEq, Nat.reduceAdd, Nat.reduceMul, Nat.reduceLeDiff, Nat.reduceLT, ↓reduceIte, reduceCtorEq, Int.reduceLT, Int.reduceLE, Int.reduceNeg, Int.reduceAdd, Int.reduceSub, Int.reduceMul, Int.reduceEq, Int.reduceToNat, if_true, if_false]) | ((first | refine gR_part (fun e => ?_) (fun e => ?_) | refine gR_partN (fun e => ?_) (fun e => ?_) | refine cR_part (fun e => ?_) (fun e => ?_) | refine cR_partN (fun e => ?_) (fun e => ?_)) <;> simp (disch := first | omega | (simp only [List.length_cons, List.length_nil, Nat.reduceAdd, Nat.reduceLeDiff, Nat.zero_add]; done)) only [e, hb, rdc_old hb, f2, e1, e2, evs1, evs2, evs3, evs4, evs5, evs6, evs7, evs8, Nat.reduceEqDiff, Nat.reduceBEq, Nat.reduceAdd, Nat.reduceMul, Nat.reduceLeDiff, Nat.reduceLT, ↓reduceIte, reduceCtorEq, Int.reduceLT, Int.reduceLE, Int.reduceNeg, Int.reduceAdd, Int.reduceSub, Int.reduceMul, Int.reduceEq, Int.reduceToNat, if_true, if_false]))
  · ((first | refine round_endJ (k + 1) ?_ ?_ ?_ rfl ?_ | refine round_end0 (k + 1) ?_ ?_ ?_ rfl ?_); exact (⟨by omega, .inr (by omega)⟩); (first | omega | (dsimp only; omega) | (simp; omega)); ((repeat' (first | exact subT_nil | refine subT_cons ?_ ?_)) <;> first | rfl | (simp only [lk_at, Nat.reduceBEq, lkB_t, lkB_f]; push_cast; rfl)); (repeat' (first | exact trivial | exact .inl rfl | exact .inr rfl | (refine .inr ?_; simp [okV]; done) | (refine .inr ?_; simp [okV]; omega) | refine ⟨?_, ?_⟩)))
  all_goals
    have hix : IsIx c k g cl := ⟨hk, hno, by omega⟩
    have hbd := mix_bdA hc (A := 4000000000000) (by omega) hix hg hcl h1
    unfold topA undA at hbd
    (try simp (disch := first | omega | (simp only [List.length_cons, List.length_nil, Nat.reduceAdd, Nat.reduceLeDiff, Nat.zero_add]; done)) only [hb, rdc_old hb, f0, f1, f2, e1, e2, evs1, evs2, evs3, evs4, evs5, evs6, evs7, evs8, Nat.reduceEqDiff, Nat.reduceBEq, Nat.reduceAdd, Nat.reduceMul, Nat.reduceLeDiff, Nat.reduceLT, ↓reduceIte, reduceCtorEq, Int.reduceLT, Int.reduceLE, Int.reduceNeg, Int.reduceAdd, Int.reduceSub, Int.reduceMul, Int.reduceEq, Int.reduceToNat, if_true, if_false]) <;> repeat' (first | ((first | refine callvR_y mixed ?_ | refine uR_step mixed ?_) <;> simp (disch := first | omega | (simp only [List.length_cons, List.length_nil, Nat.reduceAdd, Nat.reduceLeDiff, Nat.zero_add]; done)) only [hb, rdc_old hb, f0, f1, f2, e1, e2, evs1, evs2, evs3, evs4, evs5, evs6, evs7, evs8, Nat.reduceEqDiff, Nat.reduceBEq, Nat.reduceAdd, Nat.reduceMul, Nat.reduceLeDiff, Nat.reduceLT, ↓reduceIte, reduceCtorEq, Int.reduceLT, Int.reduceLE, Int.reduceNeg, Int.reduceAdd, Int.reduceSub, Int.reduceMul, Int.reduceEq, Int.reduceToNat, if_true, if_false]) | ((first | refine gR_part (fun e => ?_) (fun e => ?_) | refine gR_partN (fun e => ?_) (fun e => ?_) | refine cR_part (fun e => ?_) (fun e => ?_) | refine cR_partN (fun e => ?_) (fun e => ?_)) <;> simp (disch := first | omega | (simp only [List.length_cons, List.length_nil, Nat.reduceAdd, Nat.reduceLeDiff, Nat.zero_add]; done)) only [e, hb, rdc_old hb, f0, f1, f2, e1, e2, evs1, evs2, evs3, evs4, evs5, evs6, evs7, evs8, Nat.reduceEqDiff, Nat.reduceBEq, Nat.reduceAdd, Nat.reduceMul, Nat.reduceLeDiff, Nat.reduceLT, ↓reduceIte, reduceCtorEq, Int.reduceLT, Int.reduceLE, Int.reduceNeg, Int.reduceAdd, Int.reduceSub, Int.reduceMul, Int.reduceEq, Int.reduceToNat, if_true, if_false]))
    exact hK _ _ ⟨⟨_, rfl⟩, .inl rfl, k, hix, rfl⟩

/-- A remainder within a span. -/
def pickV (by_ : List Int) (lo hi i : Int) : Int := lo + ((by_[(i.tmod by_.length).toNat]?).getD 0).tmod (hi - lo + 1)
theorem pickV_in {l : List Int} {lo hi i : Int} (hl : lo ≤ hi) (hp : ∀ x ∈ l, 0 ≤ x) : lo ≤ pickV l lo hi i ∧ pickV l lo hi i ≤ hi := by
  unfold pickV
  have h0 : 0 ≤ (l[(i.tmod l.length).toNat]?).getD 0 := by
    cases e : l[(i.tmod l.length).toNat]? with
    | none => simp
    | some x => simpa using hp x (List.mem_of_getElem? e)
  have h1 := Int.tmod_nonneg (hi - lo + 1) h0
  have h2 := Int.tmod_lt_of_pos ((l[(i.tmod l.length).toNat]?).getD 0) (b := hi - lo + 1) (by omega)
  omega
theorem w11 {l : List Int} {a : Option Addr} {cc b : Nat} {lo hi i : Int} {h : AH} (hb : h[b]? = some (.cells true [.slice a l.length cc])) (hS : SlA h 1 a (l.map fun n => [.int .u32 n])) (hp : ∀ x ∈ l, 0 ≤ x ∧ x ≤ 4294967295) (hl0 : 0 < l.length) (hl1 : l.length ≤ 2 ^ 63 - 1) (hlo : lo ≤ hi) (hb1 : -1000000 ≤ lo) (hb2 : hi ≤ 1000000) (hi0 : 0 ≤ i ∧ i ≤ 1000) :
    ACalls Try.prog 11 [spV lo hi, .int .i64 i, .pointer (some ⟨b, 0, none⟩)] h fun v h' => h' = h ∧ v = .int .i64 (pickV l lo hi i) := by
  refine ACalls.gc ?_
  refine ACalls.of fun K hK => good_sound gd11 rfl (run_sound mixed ?_)
  have hin := pickV_in (i := i) hlo fun x hx => (hp x hx).1
  obtain ⟨b1, o, cs, rfl, hb1', hs⟩ := hS.at (by simp; omega)
  have m1 := Int.tmod_nonneg (l.length : Int) hi0.1
  have m2 := Int.tmod_lt_of_pos i (b := (l.length : Int)) (by omega)
  have hlt : (i.tmod (l.length : Int)).toNat < l.length := by omega
  have f0 := hs (i.tmod (l.length : Int)).toNat [.int .u32 l[(i.tmod (l.length : Int)).toNat]] (by rw [List.getElem?_map, List.getElem?_eq_getElem hlt]; rfl)
  have f1 := subN_get f0 (j := 0) (by omega)
  simp only [Nat.add_zero, Nat.mul_one, List.getElem?_cons_zero] at f1
  have hpx := hp _ (List.getElem_mem hlt)
  have e3 : pickV l lo hi i = lo + (l[(i.tmod (l.length : Int)).toNat]).tmod (hi - lo + 1) := by unfold pickV; rw [List.getElem?_eq_getElem hlt]; rfl
  rw [e3] at hin
  (try simp (disch := first | omega | (simp only [List.length_cons, List.length_nil, Nat.reduceAdd, Nat.reduceLeDiff, Nat.zero_add]; done)) only [c11, spV, rdc_old (rdc_of_cells hb), rdc_old hb1', f1, evs1, evs2, evs3, evs4, evs5, evs6, evs7, evs8, Nat.reduceEqDiff, Nat.reduceBEq, Nat.reduceAdd, Nat.reduceMul, Nat.reduceLeDiff, Nat.reduceLT, ↓reduceIte, reduceCtorEq, Int.reduceLT, Int.reduceLE, Int.reduceNeg, Int.reduceAdd, Int.reduceSub, Int.reduceMul, Int.reduceEq, Int.reduceToNat, if_true, if_false]) <;> repeat' (first | ((first | refine callvR_y mixed ?_ | refine uR_step mixed ?_) <;> simp (disch := first | omega | (simp only [List.length_cons, List.length_nil, Nat.reduceAdd, Nat.reduceLeDiff, Nat.zero_add]; done)) only [c11, spV, rdc_old (rdc_of_cells hb), rdc_old hb1', f1, evs1, evs2, evs3, evs4, evs5, evs6, evs7, evs8, Nat.reduceEqDiff, Nat.reduceBEq, Nat.reduceAdd, Nat.reduceMul, Nat.reduceLeDiff, Nat.reduceLT, ↓reduceIte, reduceCtorEq, Int.reduceLT, Int.reduceLE, Int.reduceNeg, Int.reduceAdd, Int.reduceSub, Int.reduceMul, Int.reduceEq, Int.reduceToNat, if_true, if_false]) | ((first | refine gR_part (fun e => ?_) (fun e => ?_) | refine gR_partN (fun e => ?_) (fun e => ?_) | refine cR_part (fun e => ?_) (fun e => ?_) | refine cR_partN (fun e => ?_) (fun e => ?_)) <;> simp (disch := first | omega | (simp only [List.length_cons, List.length_nil, Nat.reduceAdd, Nat.reduceLeDiff, Nat.zero_add]; done)) only [e, c11, spV, rdc_old (rdc_of_cells hb), rdc_old hb1', f1, evs1, evs2, evs3, evs4, evs5, evs6, evs7, evs8, Nat.reduceEqDiff, Nat.reduceBEq, Nat.reduceAdd, Nat.reduceMul, Nat.reduceLeDiff, Nat.reduceLT, ↓reduceIte, reduceCtorEq, Int.reduceLT, Int.reduceLE, Int.reduceNeg, Int.reduceAdd, Int.reduceSub, Int.reduceMul, Int.reduceEq, Int.reduceToNat, if_true, if_false]))
  exact hK _ _ ⟨⟨_, rfl⟩, .inl rfl, congrArg (Value.int .i64) e3.symm⟩
end Go.Proofs.Ytkpafafiaicfpaa
