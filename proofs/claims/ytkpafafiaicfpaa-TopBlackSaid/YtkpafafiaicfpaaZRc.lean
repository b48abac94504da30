/- Contracts of functions of the program, and what follows of them; each theorem states its conditions. -/
import Derived.Test.YtkpafafiaicfpaaZRb
import Derived.Test.YtkpafafiaicfpaaPwAr
set_option linter.unusedSimpArgs false
set_option linter.unusedVariables false
set_option linter.unusedSectionVars false
/-! Results that the document fixes. -/
namespace Go.Proofs.Ytkpafafiaicfpaa
open Go.Pw

def awL : List Sk := [⟨10, 20, 900, 950, 0, 0⟩, ⟨100, 150, 0, 0, 100, 120⟩]
def awB : List Tk := [⟨0, 600, 600⟩, ⟨1, 500, 510⟩]
def awC : List Tn := [⟨0, 0⟩, ⟨1000, 200⟩]
def awX : Lds := ⟨420, 420, 580, 580, 4, none, [], 0, 0, 0, 0, 0, 0⟩
theorem aw_lo : shLo (newB awL awB) = 528 := by kernel_rfl
theorem aw_hi : shHi (newB awL awB) = 583 := by kernel_rfl
theorem aw_bl : blackR awC awX = (80, 88, 0) := by kernel_rfl

theorem w7 (h : AH) : ACalls Try.prog 7 [] h fun v h' => h' = h ∧ v = .bool true := by
  refine ACalls.gc ?_
  refine ACalls.of fun K hK => good_sound gd7 rfl (run_sound mixed ?_)
  (try simp (disch := first | omega | (simp only [List.length_cons, List.length_nil, Nat.reduceAdd, Nat.reduceLeDiff, Nat.zero_add]; done)) only [c7, aw_lo, aw_hi, aw_bl, evs1, evs2, evs3, evs4, evs5, evs6, evs7, evs8, Nat.reduceEqDiff, Nat.reduceBEq, Nat.reduceAdd, Nat.reduceMul, Nat.reduceLeDiff, Nat.reduceLT, ↓reduceIte, reduceCtorEq, Int.reduceLT, Int.reduceLE, Int.reduceNeg, Int.reduceAdd, Int.reduceSub, Int.reduceMul, Int.reduceEq, Int.reduceToNat, if_true, if_false]) <;> repeat' (first | (refine callR_eq (w9 (l := awL) (b := awB) (by simp [awL, Sk.ok]) (by simp [awL, awB, Tk.ok]) (SlA.flat (by simp only [rdc_app, rdc_app0, rdc_cons, rdc_row]; rfl) (by simp [awL, Sk.cells])) (SlA.flat (by simp only [rdc_app, rdc_app0, rdc_cons, rdc_row]; rfl) (by simp [awB, Tk.cells])) (by simp [awL]) (by simp [awB])) ?_; simp (disch := first | omega | (simp only [List.length_cons, List.length_nil, Nat.reduceAdd, Nat.reduceLeDiff, Nat.zero_add]; done)) only [aw_lo, aw_hi, evs1, evs2, evs3, evs4, evs5, evs6, evs7, evs8, Nat.reduceEqDiff, Nat.reduceBEq, Nat.reduceAdd, Nat.reduceMul, Nat.reduceLeDiff, Nat.reduceLT, ↓reduceIte, reduceCtorEq, Int.reduceLT, Int.reduceLE, Int.reduceNeg, Int.reduceAdd, Int.reduceSub, Int.reduceMul, Int.reduceEq, Int.reduceToNat, if_true, if_false]) | (refine callR_eq (w10 (c := awC) (l := awX) (SlA.flat (by simp only [rdc_app, rdc_app0, rdc_cons, rdc_row]; rfl) (by simp [awC, Tn.cells])) (by simp [awC]) (fun i x e => by simp [awX] at e) (by simp [awX])) ?_; simp (disch := first | omega | (simp only [List.length_cons, List.length_nil, Nat.reduceAdd, Nat.reduceLeDiff, Nat.zero_add]; done)) only [aw_bl, evs1, evs2, evs3, evs4, evs5, evs6, evs7, evs8, Nat.reduceEqDiff, Nat.reduceBEq, Nat.reduceAdd, Nat.reduceMul, Nat.reduceLeDiff, Nat.reduceLT, ↓reduceIte, reduceCtorEq, Int.reduceLT, Int.reduceLE, Int.reduceNeg, Int.reduceAdd, Int.reduceSub, Int.reduceMul, Int.reduceEq, Int.reduceToNat, if_true, if_false]) | ((first | refine callvR_y mixed ?_ | refine uR_step mixed ?_) <;> simp (disch := first | omega | (simp only [List.length_cons, List.length_nil, Nat.reduceAdd, Nat.reduceLeDiff, Nat.zero_add]; done)) only [c7, aw_lo, aw_hi, aw_bl, evs1, evs2, evs3, evs4, evs5, evs6, evs7, evs8, Nat.reduceEqDiff, Nat.reduceBEq, Nat.reduceAdd, Nat.reduceMul, Nat.reduceLeDiff, Nat.reduceLT, ↓reduceIte, reduceCtorEq, Int.reduceLT, Int.reduceLE, Int.reduceNeg, Int.reduceAdd, Int.reduceSub, Int.reduceMul, Int.reduceEq, Int.reduceToNat, if_true, if_false]) | ((first | refine gR_part (fun e => ?_) (fun e => ?_) | refine gR_partN (fun e => ?_) (fun e => ?_) | refine cR_part (fun e => ?_) (fun e => ?_) | refine cR_partN (fun e => ?_) (fun e => ?_)) <;> simp (disch := first | omega | (simp only [List.length_cons, List.length_nil, Nat.reduceAdd, Nat.reduceLeDiff, Nat.zero_add]; done)) only [e, c7, aw_lo, aw_hi, aw_bl, evs1, evs2, evs3, evs4, evs5, evs6, evs7, evs8, Nat.reduceEqDiff, Nat.reduceBEq, Nat.reduceAdd, Nat.reduceMul, Nat.reduceLeDiff, Nat.reduceLT, ↓reduceIte, reduceCtorEq, Int.reduceLT, Int.reduceLE, Int.reduceNeg, Int.reduceAdd, Int.reduceSub, Int.reduceMul, Int.reduceEq, Int.reduceToNat, if_true, if_false]))
  exact hK _ _ ⟨⟨_, rfl⟩, .inl rfl, rfl⟩
end Go.Proofs.Ytkpafafiaicfpaa
