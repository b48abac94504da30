/- Contracts of functions of the program, and what follows of them; each theorem states its conditions. -/
import Derived.Test.YtkpafafiaicfpaaZSa
set_option linter.unusedSimpArgs false
set_option linter.unusedVariables false
set_option linter.unusedSectionVars false
/-! Contracts of the package sack: batches. -/
namespace Go.Proofs.Ytkpafafiaicfpaa
open Go.Pw

/-- A sack out of which something was taken. -/
structure St where (s : Sk) (lo hi : Int)
def St.cells (x : St) : List Value := [.int .i64 x.s.wl, .int .i64 x.s.wh, .int .i64 x.s.cl, .int .i64 x.s.ch, .int .i64 x.s.nl, .int .i64 x.s.nh, .int .i64 x.lo, .int .i64 x.hi]
def St.val (x : St) : Value := .agg x.cells.toArray
abbrev encB (m : List (Int × St)) : List (Value × Value) := encM .i64 St.val m
def sumLo (F : Int → Int → Int → Int) (m : List (Int × St)) : Int := (m.map fun e => addLo F e.2.s e.2.lo e.2.hi).sum
def sumHi (F : Int → Int → Int → Int) (m : List (Int × St)) : Int := (m.map fun e => addHi F e.2.s e.2.lo e.2.hi).sum
/-- What holds of a quantity, so that the sums of a batch are true ones. -/
def Fits (F : Int → Int → Int → Int) (m : List (Int × St)) : Prop := m.length ≤ 8 ∧ ∀ e ∈ m, (∀ w c n, e.2.s.at w c n → IntKind.i64.wrap (e.2.lo * F w c n) = e.2.lo * F w c n ∧ IntKind.i64.wrap (e.2.hi * F w c n) = e.2.hi * F w c n) ∧
  (-1000000000000000000 ≤ addLo F e.2.s e.2.lo e.2.hi ∧ addLo F e.2.s e.2.lo e.2.hi ≤ 1000000000000000000) ∧ (-1000000000000000000 ≤ addHi F e.2.s e.2.lo e.2.hi ∧ addHi F e.2.s e.2.lo e.2.hi ≤ 1000000000000000000)

def atLo (F : Int → Int → Int → Int) (m : List (Int × St)) (i : Nat) : Int := match m[i]? with
  | some e => addLo F e.2.s e.2.lo e.2.hi
  | none => 0
def atHi (F : Int → Int → Int → Int) (m : List (Int × St)) (i : Nat) : Int := match m[i]? with
  | some e => addHi F e.2.s e.2.lo e.2.hi
  | none => 0

theorem w26 {m : List (Int × St)} {b : Nat} {g : FuncId} {x y : List Value} {F : Int → Int → Int → Int} {h : AH} (hb : h[b]? = some (.map (encB m)))
    (hf : ∀ e ∈ m, ∀ w c n l, e.2.s.at w c n → ACallV Try.prog (.func (.func g) x.toArray y.toArray) [stV w c n] (h ++ l) fun v h' => h' = h ++ l ∧ v = .int .i64 (F w c n)) (hF : Fits F m) :
    ACalls Try.prog 26 [.map (some b), .func (.func g) x.toArray y.toArray] h fun v h' => h' = h ∧ v = spV (sumLo F m) (sumHi F m) := by
  refine ACalls.gc ?_
  refine ACalls.of fun K hK => good_sound gd26 rfl (run_sound mixed ?_)
  have hbl := lt_old hb
  simp (disch := first | omega | (simp only [List.length_cons, List.length_nil, Nat.reduceAdd, Nat.reduceLeDiff, Nat.zero_add]; done)) only [c26, get_old hb, encM_len, evs1, evs2, evs3, evs4, evs5, evs6, evs7, evs8, Nat.reduceEqDiff, Nat.reduceBEq, Nat.reduceAdd, Nat.reduceMul, Nat.reduceLeDiff, Nat.reduceLT, ↓reduceIte, reduceCtorEq, Int.reduceLT, Int.reduceLE, Int.reduceNeg, Int.reduceAdd, Int.reduceSub, Int.reduceMul, Int.reduceEq, Int.reduceToNat, if_true, if_false]
  refine loopR_of mixed (X := List Nat) (fun s => s.Nodup ∧ ∀ i ∈ s, i < m.length) (fun s => m.length - s.length) (fun _ => [(4, .pointer (some ⟨h.length, 0, none⟩)), (10, .pointer (some ⟨h.length + 1, 0, none⟩)), (1, .func (.func g) x.toArray y.toArray)])
    (fun s => h ++ [.cells true [.int .i64 (sumAt (atLo F m) s), .int .i64 (sumAt (atHi F m) s)], .iter (some b) m.length s]) [] ⟨List.nodup_nil, fun i hi => by simp at hi⟩ ?_ rfl ?_
  · (repeat' (first | exact subT_nil | refine subT_cons ?_ ?_)) <;> first | rfl | (simp only [lk_at, Nat.reduceBEq, lkB_t, lkB_f]; push_cast; rfl)
  rintro s ⟨hs, hs2⟩
  have hsl := seen_len hs hs2
  simp (disch := first | omega | (simp only [List.length_cons, List.length_nil, Nat.reduceAdd, Nat.reduceLeDiff, Nat.zero_add]; done)) only [evs1, evs2, evs3, evs4, evs5, evs6, evs7, evs8, Nat.reduceEqDiff, Nat.reduceBEq, Nat.reduceAdd, Nat.reduceMul, Nat.reduceLeDiff, Nat.reduceLT, ↓reduceIte, reduceCtorEq, Int.reduceLT, Int.reduceLE, Int.reduceNeg, Int.reduceAdd, Int.reduceSub, Int.reduceMul, Int.reduceEq, Int.reduceToNat, if_true, if_false]
  refine evR_nextR (es := encB m) (m := b) (n := m.length) (seen := s) (by simp only [get_app, List.getElem?_cons_succ, List.getElem?_cons_zero]) (get_old hb) encM_len ?_ ?_
  · intro i k v he hi
    obtain ⟨k, st, hm, rfl, rfl⟩ := encM_get he
    have hil : i < m.length := (List.getElem?_eq_some_iff.1 hm).1
    obtain ⟨hl8, hF2⟩ := hF
    obtain ⟨q1, q2, q3⟩ := hF2 _ (List.mem_of_getElem? hm)
    have b1 := sumAt_bd (atLo F m) 1000000000000000000 (by omega) s fun j hj => by
      have := (hF2 _ (List.mem_of_getElem? (List.getElem?_eq_getElem (hs2 j hj)))).2.1
      unfold atLo; rw [List.getElem?_eq_getElem (hs2 j hj)]; exact this
    have b2 := sumAt_bd (atHi F m) 1000000000000000000 (by omega) s fun j hj => by
      have := (hF2 _ (List.mem_of_getElem? (List.getElem?_eq_getElem (hs2 j hj)))).2.2
      unfold atHi; rw [List.getElem?_eq_getElem (hs2 j hj)]; exact this
    have hs' := seen_snoc (n := m.length) hs hi
    have hs2' : ∀ j ∈ s ++ [i], j < m.length := fun j hj => by
      rcases List.mem_append.1 hj with hj | hj
      · exact hs2 j hj
      · simp at hj; omega
    have hsl' := seen_len hs' hs2'
    simp only [List.length_append, List.length_cons, List.length_nil] at hsl'
    dsimp only at q2 q3
    have e1 : sumAt (atLo F m) (s ++ [i]) = sumAt (atLo F m) s + addLo F st.s st.lo st.hi := by rw [sumAt_snoc]; simp only [atLo, hm]
    have e2 : sumAt (atHi F m) (s ++ [i]) = sumAt (atHi F m) s + addHi F st.s st.lo st.hi := by rw [sumAt_snoc]; simp only [atHi, hm]
    (try simp (disch := first | omega | (simp only [List.length_cons, List.length_nil, Nat.reduceAdd, Nat.reduceLeDiff, Nat.zero_add]; done)) only [get_old hb, encM_len, he, St.val, St.cells, evs1, evs2, evs3, evs4, evs5, evs6, evs7, evs8, Nat.reduceEqDiff, Nat.reduceBEq, Nat.reduceAdd, Nat.reduceMul, Nat.reduceLeDiff, Nat.reduceLT, ↓reduceIte, reduceCtorEq, Int.reduceLT, Int.reduceLE, Int.reduceNeg, Int.reduceAdd, Int.reduceSub, Int.reduceMul, Int.reduceEq, Int.reduceToNat, if_true, if_false]) <;> repeat' (first | (refine callR_eq (w41 (s := st.s) (lo := st.lo) (hi := st.hi) (F := F) (fun w c n l ha => by rw [List.append_assoc]; exact hf _ (List.mem_of_getElem? hm) w c n _ ha) (fun w c n ha => (q1 w c n ha).1) (fun w c n ha => (q1 w c n ha).2)) ?_; simp (disch := first | omega | (simp only [List.length_cons, List.length_nil, Nat.reduceAdd, Nat.reduceLeDiff, Nat.zero_add]; done)) only [get_old hb, encM_len, he, St.val, St.cells, evs1, evs2, evs3, evs4, evs5, evs6, evs7, evs8, Nat.reduceEqDiff, Nat.reduceBEq, Nat.reduceAdd, Nat.reduceMul, Nat.reduceLeDiff, Nat.reduceLT, ↓reduceIte, reduceCtorEq, Int.reduceLT, Int.reduceLE, Int.reduceNeg, Int.reduceAdd, Int.reduceSub, Int.reduceMul, Int.reduceEq, Int.reduceToNat, if_true, if_false]) | ((first | refine callvR_y mixed ?_ | refine uR_step mixed ?_) <;> simp (disch := first | omega | (simp only [List.length_cons, List.length_nil, Nat.reduceAdd, Nat.reduceLeDiff, Nat.zero_add]; done)) only [get_old hb, encM_len, he, St.val, St.cells, evs1, evs2, evs3, evs4, evs5, evs6, evs7, evs8, Nat.reduceEqDiff, Nat.reduceBEq, Nat.reduceAdd, Nat.reduceMul, Nat.reduceLeDiff, Nat.reduceLT, ↓reduceIte, reduceCtorEq, Int.reduceLT, Int.reduceLE, Int.reduceNeg, Int.reduceAdd, Int.reduceSub, Int.reduceMul, Int.reduceEq, Int.reduceToNat, if_true, if_false]) | ((first | refine gR_part (fun e => ?_) (fun e => ?_) | refine gR_partN (fun e => ?_) (fun e => ?_) | refine cR_part (fun e => ?_) (fun e => ?_) | refine cR_partN (fun e => ?_) (fun e => ?_)) <;> simp (disch := first | omega | (simp only [List.length_cons, List.length_nil, Nat.reduceAdd, Nat.reduceLeDiff, Nat.zero_add]; done)) only [e, get_old hb, encM_len, he, St.val, St.cells, evs1, evs2, evs3, evs4, evs5, evs6, evs7, evs8, Nat.reduceEqDiff, Nat.reduceBEq, Nat.reduceAdd, Nat.reduceMul, Nat.reduceLeDiff, Nat.reduceLT, ↓reduceIte, reduceCtorEq, Int.reduceLT, Int.reduceLE, Int.reduceNeg, Int.reduceAdd, Int.reduceSub, Int.reduceMul, Int.reduceEq, Int.reduceToNat, if_true, if_false]))
    (refine round_endA (s ++ [i]) ?_ ?_ ?_ ?_ ?_ ?_ ?_; exact (⟨hs', hs2'⟩); (first | omega | (dsimp only; omega) | (simp; omega)); ((repeat' (first | exact subT_nil | refine subT_cons ?_ ?_)) <;> first | rfl | (simp only [lk_at, Nat.reduceBEq, lkB_t, lkB_f]; push_cast; rfl)); (simp); (simp [e1, e2, hbl]); (simp [okB, okV, e1, e2, hbl]; try omega); (simp only [List.length_cons, List.length_nil, Nat.reduceAdd]; repeat' (first | exact trivial | exact .inl rfl | exact .inr rfl | (refine .inr ?_; simp [okV]; done) | (refine .inr ?_; simp [okV]; omega) | refine ⟨?_, ?_⟩)))
  · intro hall
    (try simp (disch := first | omega | (simp only [List.length_cons, List.length_nil, Nat.reduceAdd, Nat.reduceLeDiff, Nat.zero_add]; done)) only [evs1, evs2, evs3, evs4, evs5, evs6, evs7, evs8, Nat.reduceEqDiff, Nat.reduceBEq, Nat.reduceAdd, Nat.reduceMul, Nat.reduceLeDiff, Nat.reduceLT, ↓reduceIte, reduceCtorEq, Int.reduceLT, Int.reduceLE, Int.reduceNeg, Int.reduceAdd, Int.reduceSub, Int.reduceMul, Int.reduceEq, Int.reduceToNat, if_true, if_false]) <;> repeat' (first | ((first | refine callvR_y mixed ?_ | refine uR_step mixed ?_) <;> simp (disch := first | omega | (simp only [List.length_cons, List.length_nil, Nat.reduceAdd, Nat.reduceLeDiff, Nat.zero_add]; done)) only [evs1, evs2, evs3, evs4, evs5, evs6, evs7, evs8, Nat.reduceEqDiff, Nat.reduceBEq, Nat.reduceAdd, Nat.reduceMul, Nat.reduceLeDiff, Nat.reduceLT, ↓reduceIte, reduceCtorEq, Int.reduceLT, Int.reduceLE, Int.reduceNeg, Int.reduceAdd, Int.reduceSub, Int.reduceMul, Int.reduceEq, Int.reduceToNat, if_true, if_false]) | ((first | refine gR_part (fun e => ?_) (fun e => ?_) | refine gR_partN (fun e => ?_) (fun e => ?_) | refine cR_part (fun e => ?_) (fun e => ?_) | refine cR_partN (fun e => ?_) (fun e => ?_)) <;> simp (disch := first | omega | (simp only [List.length_cons, List.length_nil, Nat.reduceAdd, Nat.reduceLeDiff, Nat.zero_add]; done)) only [e, evs1, evs2, evs3, evs4, evs5, evs6, evs7, evs8, Nat.reduceEqDiff, Nat.reduceBEq, Nat.reduceAdd, Nat.reduceMul, Nat.reduceLeDiff, Nat.reduceLT, ↓reduceIte, reduceCtorEq, Int.reduceLT, Int.reduceLE, Int.reduceNeg, Int.reduceAdd, Int.reduceSub, Int.reduceMul, Int.reduceEq, Int.reduceToNat, if_true, if_false]))
    exact hK _ _ ⟨⟨_, rfl⟩, .inl rfl, by
      rw [seen_all hs hs2 hall, seen_all hs hs2 hall, sumAt_range (fun e => addLo F e.2.s e.2.lo e.2.hi) m _ (fun i x e => by simp only [atLo, e]), sumAt_range (fun e => addHi F e.2.s e.2.lo e.2.hi) m _ (fun i x e => by simp only [atHi, e])]
      rfl⟩
end Go.Proofs.Ytkpafafiaicfpaa
