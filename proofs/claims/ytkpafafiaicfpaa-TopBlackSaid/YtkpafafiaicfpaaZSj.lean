/- Contracts of functions of the program, and what follows of them; each theorem states its conditions. -/
import Derived.Test.YtkpafafiaicfpaaZSi
set_option linter.unusedSimpArgs false
set_option linter.unusedVariables false
set_option linter.unusedSectionVars false
/-! Contracts of the package shade: blackness. -/
namespace Go.Proofs.Ytkpafafiaicfpaa
open Go.Pw

theorem w76 (t u : Int) (h : AH) (ht : 0 ≤ t ∧ t ≤ 4000000000000000000) (hu : 1 ≤ u ∧ u ≤ 4000000000000000000) : ACalls Try.prog 76 [spV t u] h fun v h' => h' = h ∧ v = .int .i64 ((t + u - 1) / u) := by
  refine ACalls.gc ?_
  refine ACalls.of fun K hK => good_sound gd76 rfl (run_sound mixed ?_)
  have e1 : (t + u - 1).tdiv u = (t + u - 1) / u := Int.tdiv_eq_ediv_of_nonneg (by omega)
  have e2 : (t + u - 1) / u ≤ t + u - 1 := Int.ediv_le_self _ (by omega)
  have e3 : 0 ≤ (t + u - 1) / u := Int.ediv_nonneg (by omega) (by omega)
  (try simp (disch := first | omega | (simp only [List.length_cons, List.length_nil, Nat.reduceAdd, Nat.reduceLeDiff, Nat.zero_add]; done)) only [c76, spV, e1, evs1, evs2, evs3, evs4, evs5, evs6, evs7, evs8, Nat.reduceEqDiff, Nat.reduceBEq, Nat.reduceAdd, Nat.reduceMul, Nat.reduceLeDiff, Nat.reduceLT, ↓reduceIte, reduceCtorEq, Int.reduceLT, Int.reduceLE, Int.reduceNeg, Int.reduceAdd, Int.reduceSub, Int.reduceMul, Int.reduceEq, Int.reduceToNat, if_true, if_false]) <;> repeat' (first | ((first | refine callvR_y mixed ?_ | refine uR_step mixed ?_) <;> simp (disch := first | omega | (simp only [List.length_cons, List.length_nil, Nat.reduceAdd, Nat.reduceLeDiff, Nat.zero_add]; done)) only [c76, spV, e1, evs1, evs2, evs3, evs4, evs5, evs6, evs7, evs8, Nat.reduceEqDiff, Nat.reduceBEq, Nat.reduceAdd, Nat.reduceMul, Nat.reduceLeDiff, Nat.reduceLT, ↓reduceIte, reduceCtorEq, Int.reduceLT, Int.reduceLE, Int.reduceNeg, Int.reduceAdd, Int.reduceSub, Int.reduceMul, Int.reduceEq, Int.reduceToNat, if_true, if_false]) | ((first | refine gR_part (fun e => ?_) (fun e => ?_) | refine gR_partN (fun e => ?_) (fun e => ?_) | refine cR_part (fun e => ?_) (fun e => ?_) | refine cR_partN (fun e => ?_) (fun e => ?_)) <;> simp (disch := first | omega | (simp only [List.length_cons, List.length_nil, Nat.reduceAdd, Nat.reduceLeDiff, Nat.zero_add]; done)) only [e, c76, spV, e1, evs1, evs2, evs3, evs4, evs5, evs6, evs7, evs8, Nat.reduceEqDiff, Nat.reduceBEq, Nat.reduceAdd, Nat.reduceMul, Nat.reduceLeDiff, Nat.reduceLT, ↓reduceIte, reduceCtorEq, Int.reduceLT, Int.reduceLE, Int.reduceNeg, Int.reduceAdd, Int.reduceSub, Int.reduceMul, Int.reduceEq, Int.reduceToNat, if_true, if_false]))
  exact hK _ _ ⟨⟨_, rfl⟩, .inl rfl, rfl⟩
theorem w77 (t u : Int) (h : AH) (ht : 0 ≤ t ∧ t ≤ 4000000000000000000) (hu : 1 ≤ u ∧ u ≤ 4000000000000000000) : ACalls Try.prog 77 [spV t u] h fun v h' => h' = h ∧ v = .int .i64 (t / u) := by
  refine ACalls.gc ?_
  refine ACalls.of fun K hK => good_sound gd77 rfl (run_sound mixed ?_)
  have e1 : t.tdiv u = t / u := Int.tdiv_eq_ediv_of_nonneg (by omega)
  have e2 : t / u ≤ t := Int.ediv_le_self _ (by omega)
  have e3 : 0 ≤ t / u := Int.ediv_nonneg (by omega) (by omega)
  (try simp (disch := first | omega | (simp only [List.length_cons, List.length_nil, Nat.reduceAdd, Nat.reduceLeDiff, Nat.zero_add]; done)) only [c77, spV, e1, evs1, evs2, evs3, evs4, evs5, evs6, evs7, evs8, Nat.reduceEqDiff, Nat.reduceBEq, Nat.reduceAdd, Nat.reduceMul, Nat.reduceLeDiff, Nat.reduceLT, ↓reduceIte, reduceCtorEq, Int.reduceLT, Int.reduceLE, Int.reduceNeg, Int.reduceAdd, Int.reduceSub, Int.reduceMul, Int.reduceEq, Int.reduceToNat, if_true, if_false]) <;> repeat' (first | ((first | refine callvR_y mixed ?_ | refine uR_step mixed ?_) <;> simp (disch := first | omega | (simp only [List.length_cons, List.length_nil, Nat.reduceAdd, Nat.reduceLeDiff, Nat.zero_add]; done)) only [c77, spV, e1, evs1, evs2, evs3, evs4, evs5, evs6, evs7, evs8, Nat.reduceEqDiff, Nat.reduceBEq, Nat.reduceAdd, Nat.reduceMul, Nat.reduceLeDiff, Nat.reduceLT, ↓reduceIte, reduceCtorEq, Int.reduceLT, Int.reduceLE, Int.reduceNeg, Int.reduceAdd, Int.reduceSub, Int.reduceMul, Int.reduceEq, Int.reduceToNat, if_true, if_false]) | ((first | refine gR_part (fun e => ?_) (fun e => ?_) | refine gR_partN (fun e => ?_) (fun e => ?_) | refine cR_part (fun e => ?_) (fun e => ?_) | refine cR_partN (fun e => ?_) (fun e => ?_)) <;> simp (disch := first | omega | (simp only [List.length_cons, List.length_nil, Nat.reduceAdd, Nat.reduceLeDiff, Nat.zero_add]; done)) only [e, c77, spV, e1, evs1, evs2, evs3, evs4, evs5, evs6, evs7, evs8, Nat.reduceEqDiff, Nat.reduceBEq, Nat.reduceAdd, Nat.reduceMul, Nat.reduceLeDiff, Nat.reduceLT, ↓reduceIte, reduceCtorEq, Int.reduceLT, Int.reduceLE, Int.reduceNeg, Int.reduceAdd, Int.reduceSub, Int.reduceMul, Int.reduceEq, Int.reduceToNat, if_true, if_false]))
  exact hK _ _ ⟨⟨_, rfl⟩, .inl rfl, rfl⟩

/-! ### Curves -/
theorem CurveOk.mono {c : List Tn} (hc : CurveOk c) : ∀ (j i : Nat), i ≤ j → j < c.length → (tat c i).r ≤ (tat c j).r ∧ (tat c i).b ≤ (tat c j).b ∧ (i < j → (tat c i).r < (tat c j).r)
  | 0, i, h1, _ => by
    have : i = 0 := by omega
    subst this
    exact ⟨Int.le_refl _, Int.le_refl _, fun h => by omega⟩
  | j + 1, i, h1, h2 => by
    by_cases hij : i = j + 1
    · subst hij
      exact ⟨Int.le_refl _, Int.le_refl _, fun h => by omega⟩
    · obtain ⟨a, b, d⟩ := hc.mono j i (by omega) (by omega)
      have hb := hc.2.2.2 (j + 1) h2
      unfold badAt at hb
      simp only [Nat.add_sub_cancel] at hb
      omega
theorem CurveOk.bd {c : List Tn} (hc : CurveOk c) {i : Nat} (hi : i < c.length) : (0 ≤ (tat c i).r ∧ (tat c i).r ≤ 1000) ∧ (0 ≤ (tat c i).b ∧ (tat c i).b ≤ 200) := by
  have h1 := hc.mono i 0 (by omega) hi
  have h2 := hc.mono (c.length - 1) i (by omega) (by omega)
  have h3 := hc.2.2.2 i hi
  have h4 := hc.2.1
  have h5 := hc.2.2.1
  unfold badAt at h3
  omega

/-- The place of a ratio in a curve. -/
def reachB (c : List Tn) (g cl : Int) (i : Int) : Bool := decide (1000 * g ≤ (tat c (i.toNat + 1)).r * (g + cl))
def mixIx (c : List Tn) (g cl : Int) : Nat := (srchN (reachB c g cl) ((c.length : Int) - 2).toNat 0 ((c.length : Int) - 2)).toNat
def mixTop (c : List Tn) (g cl : Int) : Int := (tat c (mixIx c g cl)).b * ((tat c (mixIx c g cl + 1)).r - (tat c (mixIx c g cl)).r) * (g + cl) + ((tat c (mixIx c g cl + 1)).b - (tat c (mixIx c g cl)).b) * (1000 * g - (tat c (mixIx c g cl)).r * (g + cl))
def mixUnder (c : List Tn) (g cl : Int) : Int := ((tat c (mixIx c g cl + 1)).r - (tat c (mixIx c g cl)).r) * (g + cl)

theorem mixIx_spec {c : List Tn} (hc : CurveOk c) (g cl : Int) : mixIx c g cl + 1 < c.length ∧ (mixIx c g cl = 0 ∨ (tat c (mixIx c g cl)).r * (g + cl) < 1000 * g) ∧ (mixIx c g cl + 2 = c.length ∨ 1000 * g ≤ (tat c (mixIx c g cl + 1)).r * (g + cl)) ∧
    srchN (reachB c g cl) ((c.length : Int) - 2).toNat 0 ((c.length : Int) - 2) = mixIx c g cl := by
  have hl := hc.1
  obtain ⟨h1, h2, h3⟩ := srchN_spec (reachB c g cl) ((c.length : Int) - 2).toNat 0 ((c.length : Int) - 2) (by omega) (by omega)
  have e : srchN (reachB c g cl) ((c.length : Int) - 2).toNat 0 ((c.length : Int) - 2) = mixIx c g cl := by unfold mixIx; omega
  rw [e] at h1 h2 h3
  refine ⟨by omega, ?_, ?_, e⟩
  · by_cases h0 : mixIx c g cl = 0
    · exact .inl h0
    · right
      rcases h2 with h2 | h2
      · omega
      · unfold reachB at h2
        have : ((mixIx c g cl : Int) - 1).toNat + 1 = mixIx c g cl := by omega
        rw [this] at h2
        simpa using h2
  · rcases h3 with h3 | h3
    · left; omega
    · right
      unfold reachB at h3
      simpa using h3

/-- The bounds of what is reckoned. -/
theorem mix_bd {c : List Tn} (hc : CurveOk c) {g cl : Int} (hg : 1 ≤ g ∧ g ≤ 1073741824) (hcl : 0 ≤ cl ∧ cl ≤ 1073741824) : (0 ≤ mixTop c g cl ∧ mixTop c g cl ≤ 800000000000000) ∧ (1 ≤ mixUnder c g cl ∧ mixUnder c g cl ≤ 3000000000000) ∧
    (0 ≤ (tat c (mixIx c g cl)).b * ((tat c (mixIx c g cl + 1)).r - (tat c (mixIx c g cl)).r) ∧ (tat c (mixIx c g cl)).b * ((tat c (mixIx c g cl + 1)).r - (tat c (mixIx c g cl)).r) ≤ 200000) ∧
    (0 ≤ (tat c (mixIx c g cl)).b * ((tat c (mixIx c g cl + 1)).r - (tat c (mixIx c g cl)).r) * (g + cl) ∧ (tat c (mixIx c g cl)).b * ((tat c (mixIx c g cl + 1)).r - (tat c (mixIx c g cl)).r) * (g + cl) ≤ 430000000000000) ∧
    (0 ≤ (tat c (mixIx c g cl)).r * (g + cl) ∧ (tat c (mixIx c g cl)).r * (g + cl) ≤ 3000000000000) ∧ 0 ≤ 1000 * g - (tat c (mixIx c g cl)).r * (g + cl) ∧
    (0 ≤ ((tat c (mixIx c g cl + 1)).b - (tat c (mixIx c g cl)).b) * (1000 * g - (tat c (mixIx c g cl)).r * (g + cl)) ∧ ((tat c (mixIx c g cl + 1)).b - (tat c (mixIx c g cl)).b) * (1000 * g - (tat c (mixIx c g cl)).r * (g + cl)) ≤ 220000000000000) := by
  obtain ⟨h1, h2, h3, _⟩ := mixIx_spec hc g cl
  have b1 := hc.bd (i := mixIx c g cl) (by omega)
  have b2 := hc.bd (i := mixIx c g cl + 1) h1
  have m1 := hc.mono (mixIx c g cl + 1) (mixIx c g cl) (by omega) h1
  have hr0 : mixIx c g cl = 0 → (tat c (mixIx c g cl)).r = 0 := fun e => by rw [e]; exact hc.2.1
  unfold mixTop mixUnder
  generalize tat c (mixIx c g cl) = a at *
  generalize tat c (mixIx c g cl + 1) = b at *
  generalize mixIx c g cl = i at *
  have q1 : a.r < b.r := m1.2.2 (by omega)
  have q5 : 0 ≤ a.b * (b.r - a.r) ∧ a.b * (b.r - a.r) ≤ 200 * 1000 := ⟨Int.mul_nonneg (by omega) (by omega), Int.mul_le_mul (by omega) (by omega) (by omega) (by omega)⟩
  have q6 : 0 ≤ a.b * (b.r - a.r) * (g + cl) ∧ a.b * (b.r - a.r) * (g + cl) ≤ 200000 * 2147483648 := ⟨Int.mul_nonneg q5.1 (by omega), Int.mul_le_mul (by omega) (by omega) (by omega) (by omega)⟩
  have q7 : 0 ≤ a.r * (g + cl) ∧ a.r * (g + cl) ≤ 1000 * 2147483648 := ⟨Int.mul_nonneg (by omega) (by omega), Int.mul_le_mul (by omega) (by omega) (by omega) (by omega)⟩
  have q8 : 0 ≤ 1000 * g - a.r * (g + cl) := by
    rcases h2 with h2 | h2
    · rw [hr0 h2, Int.zero_mul]; omega
    · omega
  have q9 : 0 ≤ (b.b - a.b) * (1000 * g - a.r * (g + cl)) ∧ (b.b - a.b) * (1000 * g - a.r * (g + cl)) ≤ 200 * 1073741824000 := ⟨Int.mul_nonneg (by omega) q8, Int.mul_le_mul (by omega) (by omega) q8 (by omega)⟩
  have q10 : 1 * 1 ≤ (b.r - a.r) * (g + cl) ∧ (b.r - a.r) * (g + cl) ≤ 1000 * 2147483648 := ⟨Int.mul_le_mul (by omega) (by omega) (by omega) (by omega), Int.mul_le_mul (by omega) (by omega) (by omega) (by omega)⟩
  omega

theorem w78 {c : List Tn} {a : Option Addr} {cc : Nat} {g cl i : Int} {h : AH} (hS : SlA h 2 a (c.map Tn.cells)) (hc : CurveOk c) (hg : 1 ≤ g ∧ g ≤ 1073741824) (hcl : 0 ≤ cl ∧ cl ≤ 1073741824) (hi : 0 ≤ i ∧ i + 1 < c.length) :
    ACalls Try.prog 78 [.agg [.slice a c.length cc, .int .i64 g, .int .i64 cl].toArray, .int .i64 i] h fun v h' => h' = h ∧ v = .bool (reachB c g cl i) := by
  refine ACalls.gc ?_
  refine ACalls.of fun K hK => good_sound gd78 rfl (run_sound mixed ?_)
  obtain ⟨b, o, cs, rfl, hb, hs⟩ := hS.at (by simp; omega)
  have hl := hc.1
  have f1 := hs (i.toNat + 1) (tat c (i.toNat + 1)).cells (by rw [List.getElem?_map, List.getElem?_eq_getElem (by omega), tat_get]; rfl)
  have f2 := subN_get f1 (j := 0) (by omega)
  simp only [Nat.add_zero, Tn.cells, List.getElem?_cons_zero, List.getElem?_cons_succ] at f2
  have e1 : (i + 1).toNat = i.toNat + 1 := by omega
  have b2 := hc.bd (i := i.toNat + 1) (by omega)
  have q7 : 0 ≤ (tat c (i.toNat + 1)).r * (g + cl) ∧ (tat c (i.toNat + 1)).r * (g + cl) ≤ 1000 * 2147483648 := ⟨Int.mul_nonneg (by omega) (by omega), Int.mul_le_mul (by omega) (by omega) (by omega) (by omega)⟩
  (try simp (disch := first | omega | (simp only [List.length_cons, List.length_nil, Nat.reduceAdd, Nat.reduceLeDiff, Nat.zero_add]; done)) only [c78, hb, rdc_old hb, f2, e1, evs1, evs2, evs3, evs4, evs5, evs6, evs7, evs8, Nat.reduceEqDiff, Nat.reduceBEq, Nat.reduceAdd, Nat.reduceMul, Nat.reduceLeDiff, Nat.reduceLT, ↓reduceIte, reduceCtorEq, Int.reduceLT, Int.reduceLE, Int.reduceNeg, Int.reduceAdd, Int.reduceSub, Int.reduceMul, Int.reduceEq, Int.reduceToNat, if_true, if_false]) <;> repeat' (first | ((first | refine callvR_y mixed ?_ | refine uR_step mixed ?_) <;> simp (disch := first | omega | (simp only [List.length_cons, List.length_nil, Nat.reduceAdd, Nat.reduceLeDiff, Nat.zero_add]; done)) only [c78, hb, rdc_old hb, f2, e1, evs1, evs2, evs3, evs4, evs5, evs6, evs7, evs8, Nat.reduceEqDiff, Nat.reduceBEq, Nat.reduceAdd, Nat.reduceMul, Nat.reduceLeDiff, Nat.reduceLT, ↓reduceIte, reduceCtorEq, Int.reduceLT, Int.reduceLE, Int.reduceNeg, Int.reduceAdd, Int.reduceSub, Int.reduceMul, Int.reduceEq, Int.reduceToNat, if_true, if_false]) | ((first | refine gR_part (fun e => ?_) (fun e => ?_) | refine gR_partN (fun e => ?_) (fun e => ?_) | refine cR_part (fun e => ?_) (fun e => ?_) | refine cR_partN (fun e => ?_) (fun e => ?_)) <;> simp (disch := first | omega | (simp only [List.length_cons, List.length_nil, Nat.reduceAdd, Nat.reduceLeDiff, Nat.zero_add]; done)) only [e, c78, hb, rdc_old hb, f2, e1, evs1, evs2, evs3, evs4, evs5, evs6, evs7, evs8, Nat.reduceEqDiff, Nat.reduceBEq, Nat.reduceAdd, Nat.reduceMul, Nat.reduceLeDiff, Nat.reduceLT, ↓reduceIte, reduceCtorEq, Int.reduceLT, Int.reduceLE, Int.reduceNeg, Int.reduceAdd, Int.reduceSub, Int.reduceMul, Int.reduceEq, Int.reduceToNat, if_true, if_false]))
  exact hK _ _ ⟨⟨_, rfl⟩, .inl rfl, rfl⟩

theorem w75 {c : List Tn} {a : Option Addr} {cc : Nat} {g cl : Int} {h : AH} (hS : SlA h 2 a (c.map Tn.cells)) (hc : CurveOk c) (hg : 1 ≤ g ∧ g ≤ 1073741824) (hcl : 0 ≤ cl ∧ cl ≤ 1073741824) :
    ACalls Try.prog 75 [.agg [.slice a c.length cc, .int .i64 g, .int .i64 cl].toArray] h fun v h' => h' = h ∧ v = spV (mixTop c g cl) (mixUnder c g cl) := by
  refine ACalls.gc ?_
  refine ACalls.of fun K hK => good_sound gd75 rfl (run_sound mixed ?_)
  have hl := hc.1
  obtain ⟨h1, h2, h3, h4⟩ := mixIx_spec hc g cl
  have hbd := mix_bd hc hg hcl
  have b1 := hc.bd (i := mixIx c g cl) (by omega)
  have b2 := hc.bd (i := mixIx c g cl + 1) h1
  have m1 := (hc.mono (mixIx c g cl + 1) (mixIx c g cl) (by omega) h1)
  unfold mixTop mixUnder at hbd
  have hS' := hS
  obtain ⟨b, o, cs, rfl, hb, hs⟩ := hS.at (by simp; omega)
  have f0 := hs (mixIx c g cl) (tat c (mixIx c g cl)).cells (by rw [List.getElem?_map, List.getElem?_eq_getElem (by omega), tat_get]; rfl)
  have f1 := hs (mixIx c g cl + 1) (tat c (mixIx c g cl + 1)).cells (by rw [List.getElem?_map, List.getElem?_eq_getElem (by omega), tat_get]; rfl)
  simp only [Tn.cells] at f0 f1
  have e1 : ((mixIx c g cl : Int) + 1).toNat = mixIx c g cl + 1 := rfl
  (try simp (disch := first | omega | (simp only [List.length_cons, List.length_nil, Nat.reduceAdd, Nat.reduceLeDiff, Nat.zero_add]; done)) only [c75, hb, rdc_old hb, f0, f1, e1, toNat_cast, evs1, evs2, evs3, evs4, evs5, evs6, evs7, evs8, Nat.reduceEqDiff, Nat.reduceBEq, Nat.reduceAdd, Nat.reduceMul, Nat.reduceLeDiff, Nat.reduceLT, ↓reduceIte, reduceCtorEq, Int.reduceLT, Int.reduceLE, Int.reduceNeg, Int.reduceAdd, Int.reduceSub, Int.reduceMul, Int.reduceEq, Int.reduceToNat, if_true, if_false]) <;> repeat' (first | (refine callR_eq (w29 (reachB c g cl) (by omega) (fun i i1 i2 => callV_fn (w78 hS'.old hc hg hcl (by omega)))) ?_; simp only [h4]; simp (disch := first | omega | (simp only [List.length_cons, List.length_nil, Nat.reduceAdd, Nat.reduceLeDiff, Nat.zero_add]; done)) only [c75, hb, rdc_old hb, f0, f1, e1, toNat_cast, evs1, evs2, evs3, evs4, evs5, evs6, evs7, evs8, Nat.reduceEqDiff, Nat.reduceBEq, Nat.reduceAdd, Nat.reduceMul, Nat.reduceLeDiff, Nat.reduceLT, ↓reduceIte, reduceCtorEq, Int.reduceLT, Int.reduceLE, Int.reduceNeg, Int.reduceAdd, Int.reduceSub, Int.reduceMul, Int.reduceEq, Int.reduceToNat, if_true, if_false]) | ((first | refine callvR_y mixed ?_ | refine uR_step mixed ?_) <;> simp (disch := first | omega | (simp only [List.length_cons, List.length_nil, Nat.reduceAdd, Nat.reduceLeDiff, Nat.zero_add]; done)) only [c75, hb, rdc_old hb, f0, f1, e1, toNat_cast, evs1, evs2, evs3, evs4, evs5, evs6, evs7, evs8, Nat.reduceEqDiff, Nat.reduceBEq, Nat.reduceAdd, Nat.reduceMul, Nat.reduceLeDiff, Nat.reduceLT, ↓reduceIte, reduceCtorEq, Int.reduceLT, Int.reduceLE, Int.reduceNeg, Int.reduceAdd, Int.reduceSub, Int.reduceMul, Int.reduceEq, Int.reduceToNat, if_true, if_false]) | ((first | refine gR_part (fun e => ?_) (fun e => ?_) | refine gR_partN (fun e => ?_) (fun e => ?_) | refine cR_part (fun e => ?_) (fun e => ?_) | refine cR_partN (fun e => ?_) (fun e => ?_)) <;> simp (disch := first | omega | (simp only [List.length_cons, List.length_nil, Nat.reduceAdd, Nat.reduceLeDiff, Nat.zero_add]; done)) only [e, c75, hb, rdc_old hb, f0, f1, e1, toNat_cast, evs1, evs2, evs3, evs4, evs5, evs6, evs7, evs8, Nat.reduceEqDiff, Nat.reduceBEq, Nat.reduceAdd, Nat.reduceMul, Nat.reduceLeDiff, Nat.reduceLT, ↓reduceIte, reduceCtorEq, Int.reduceLT, Int.reduceLE, Int.reduceNeg, Int.reduceAdd, Int.reduceSub, Int.reduceMul, Int.reduceEq, Int.reduceToNat, if_true, if_false]))
  exact hK _ _ ⟨⟨_, rfl⟩, .inl rfl, rfl⟩

/-- The bounds by a recipe, and by a stroke. -/
def recLo (c : List Tn) (l : Lds) : Int := (mixTop c l.gl l.ch + mixUnder c l.gl l.ch - 1) / mixUnder c l.gl l.ch - l.tol
def recHi (c : List Tn) (l : Lds) : Int := mixTop c l.gh l.cl / mixUnder c l.gh l.cl + l.tol
def strLo (s : Stk) : Int := (1000 * s.rl + s.ph - 1) / s.ph
def strHi (s : Stk) : Int := 1000 * s.rh / s.pl
def recV (a : Option Addr) (n cc : Nat) (l : Lds) : Value := .agg ([.slice a n cc, .int .i64 l.gl, .int .i64 l.gh, .int .i64 l.cl, .int .i64 l.ch, .int .i64 l.tol, .slice l.sa l.ss.length l.sc, .int .i64 l.sl, .int .i64 l.sh, .int .i64 l.wl, .int .i64 l.wh, .int .i64 l.many] : List Value).toArray
theorem up_bd {t u B : Int} (ht : 0 ≤ t ∧ t ≤ B) (hu : 1 ≤ u) : 0 ≤ (t + u - 1) / u ∧ (t + u - 1) / u ≤ B := by
  refine ⟨Int.ediv_nonneg (by omega) (by omega), ?_⟩
  have h1 : (t + u - 1) / u < B + 1 := Int.ediv_lt_of_lt_mul (by omega) (by
    have : (B + 1) * u = B * u + u := by rw [Int.add_mul, Int.one_mul]
    have h2 : B * 1 ≤ B * u := Int.mul_le_mul_of_nonneg_left hu (by omega)
    omega)
  omega
theorem down_bd {t u B : Int} (ht : 0 ≤ t ∧ t ≤ B) (hu : 1 ≤ u) : 0 ≤ t / u ∧ t / u ≤ B :=
  ⟨Int.ediv_nonneg (by omega) (by omega), Int.le_trans (Int.ediv_le_self _ ht.1) ht.2⟩

theorem w74 {c : List Tn} {a : Option Addr} {cc : Nat} {l : Lds} {h : AH} (hS : SlA h 2 a (c.map Tn.cells)) (hc : CurveOk c) (hl : l.ok) :
    ACalls Try.prog 74 [recV a c.length cc l] h fun v h' => h' = h ∧ v = spV (recLo c l) (recHi c l) := by
  refine ACalls.gc ?_
  refine ACalls.of fun K hK => good_sound gd74 rfl (run_sound mixed ?_)
  obtain ⟨⟨l1, l2, l3⟩, _⟩ := hl
  have m1 := mix_bd hc (g := l.gl) (cl := l.ch) (by omega) (by omega)
  have m2 := mix_bd hc (g := l.gh) (cl := l.cl) (by omega) (by omega)
  have u1 := up_bd m1.1 m1.2.1.1
  have u2 := down_bd m2.1 m2.2.1.1
  (try simp (disch := first | omega | (simp only [List.length_cons, List.length_nil, Nat.reduceAdd, Nat.reduceLeDiff, Nat.zero_add]; done)) only [c74, recV, evs1, evs2, evs3, evs4, evs5, evs6, evs7, evs8, Nat.reduceEqDiff, Nat.reduceBEq, Nat.reduceAdd, Nat.reduceMul, Nat.reduceLeDiff, Nat.reduceLT, ↓reduceIte, reduceCtorEq, Int.reduceLT, Int.reduceLE, Int.reduceNeg, Int.reduceAdd, Int.reduceSub, Int.reduceMul, Int.reduceEq, Int.reduceToNat, if_true, if_false]) <;> repeat' (first | (refine callR_eq (w75 hS.old hc (by omega) (by omega)) ?_; simp (disch := first | omega | (simp only [List.length_cons, List.length_nil, Nat.reduceAdd, Nat.reduceLeDiff, Nat.zero_add]; done)) only [c74, recV, evs1, evs2, evs3, evs4, evs5, evs6, evs7, evs8, Nat.reduceEqDiff, Nat.reduceBEq, Nat.reduceAdd, Nat.reduceMul, Nat.reduceLeDiff, Nat.reduceLT, ↓reduceIte, reduceCtorEq, Int.reduceLT, Int.reduceLE, Int.reduceNeg, Int.reduceAdd, Int.reduceSub, Int.reduceMul, Int.reduceEq, Int.reduceToNat, if_true, if_false]) | (refine callR_eq (w76 _ _ _ (by omega) (by omega)) ?_; simp (disch := first | omega | (simp only [List.length_cons, List.length_nil, Nat.reduceAdd, Nat.reduceLeDiff, Nat.zero_add]; done)) only [c74, recV, evs1, evs2, evs3, evs4, evs5, evs6, evs7, evs8, Nat.reduceEqDiff, Nat.reduceBEq, Nat.reduceAdd, Nat.reduceMul, Nat.reduceLeDiff, Nat.reduceLT, ↓reduceIte, reduceCtorEq, Int.reduceLT, Int.reduceLE, Int.reduceNeg, Int.reduceAdd, Int.reduceSub, Int.reduceMul, Int.reduceEq, Int.reduceToNat, if_true, if_false]) | (refine callR_eq (w77 _ _ _ (by omega) (by omega)) ?_; simp (disch := first | omega | (simp only [List.length_cons, List.length_nil, Nat.reduceAdd, Nat.reduceLeDiff, Nat.zero_add]; done)) only [c74, recV, evs1, evs2, evs3, evs4, evs5, evs6, evs7, evs8, Nat.reduceEqDiff, Nat.reduceBEq, Nat.reduceAdd, Nat.reduceMul, Nat.reduceLeDiff, Nat.reduceLT, ↓reduceIte, reduceCtorEq, Int.reduceLT, Int.reduceLE, Int.reduceNeg, Int.reduceAdd, Int.reduceSub, Int.reduceMul, Int.reduceEq, Int.reduceToNat, if_true, if_false]) | ((first | refine callvR_y mixed ?_ | refine uR_step mixed ?_) <;> simp (disch := first | omega | (simp only [List.length_cons, List.length_nil, Nat.reduceAdd, Nat.reduceLeDiff, Nat.zero_add]; done)) only [c74, recV, evs1, evs2, evs3, evs4, evs5, evs6, evs7, evs8, Nat.reduceEqDiff, Nat.reduceBEq, Nat.reduceAdd, Nat.reduceMul, Nat.reduceLeDiff, Nat.reduceLT, ↓reduceIte, reduceCtorEq, Int.reduceLT, Int.reduceLE, Int.reduceNeg, Int.reduceAdd, Int.reduceSub, Int.reduceMul, Int.reduceEq, Int.reduceToNat, if_true, if_false]) | ((first | refine gR_part (fun e => ?_) (fun e => ?_) | refine gR_partN (fun e => ?_) (fun e => ?_) | refine cR_part (fun e => ?_) (fun e => ?_) | refine cR_partN (fun e => ?_) (fun e => ?_)) <;> simp (disch := first | omega | (simp only [List.length_cons, List.length_nil, Nat.reduceAdd, Nat.reduceLeDiff, Nat.zero_add]; done)) only [e, c74, recV, evs1, evs2, evs3, evs4, evs5, evs6, evs7, evs8, Nat.reduceEqDiff, Nat.reduceBEq, Nat.reduceAdd, Nat.reduceMul, Nat.reduceLeDiff, Nat.reduceLT, ↓reduceIte, reduceCtorEq, Int.reduceLT, Int.reduceLE, Int.reduceNeg, Int.reduceAdd, Int.reduceSub, Int.reduceMul, Int.reduceEq, Int.reduceToNat, if_true, if_false]))
  exact hK _ _ ⟨⟨_, rfl⟩, .inl rfl, rfl⟩

theorem w79 {s : Stk} {h : AH} (hs : s.ok) : ACalls Try.prog 79 [.agg s.cells.toArray] h fun v h' => h' = h ∧ v = spV (strLo s) (strHi s) := by
  refine ACalls.gc ?_
  refine ACalls.of fun K hK => good_sound gd79 rfl (run_sound mixed ?_)
  obtain ⟨l1, l2⟩ := hs
  (try simp (disch := first | omega | (simp only [List.length_cons, List.length_nil, Nat.reduceAdd, Nat.reduceLeDiff, Nat.zero_add]; done)) only [c79, Stk.cells, evs1, evs2, evs3, evs4, evs5, evs6, evs7, evs8, Nat.reduceEqDiff, Nat.reduceBEq, Nat.reduceAdd, Nat.reduceMul, Nat.reduceLeDiff, Nat.reduceLT, ↓reduceIte, reduceCtorEq, Int.reduceLT, Int.reduceLE, Int.reduceNeg, Int.reduceAdd, Int.reduceSub, Int.reduceMul, Int.reduceEq, Int.reduceToNat, if_true, if_false]) <;> repeat' (first | (refine callR_eq (w76 _ _ _ (by omega) (by omega)) ?_; simp (disch := first | omega | (simp only [List.length_cons, List.length_nil, Nat.reduceAdd, Nat.reduceLeDiff, Nat.zero_add]; done)) only [c79, Stk.cells, evs1, evs2, evs3, evs4, evs5, evs6, evs7, evs8, Nat.reduceEqDiff, Nat.reduceBEq, Nat.reduceAdd, Nat.reduceMul, Nat.reduceLeDiff, Nat.reduceLT, ↓reduceIte, reduceCtorEq, Int.reduceLT, Int.reduceLE, Int.reduceNeg, Int.reduceAdd, Int.reduceSub, Int.reduceMul, Int.reduceEq, Int.reduceToNat, if_true, if_false]) | (refine callR_eq (w77 _ _ _ (by omega) (by omega)) ?_; simp (disch := first | omega | (simp only [List.length_cons, List.length_nil, Nat.reduceAdd, Nat.reduceLeDiff, Nat.zero_add]; done)) only [c79, Stk.cells, evs1, evs2, evs3, evs4, evs5, evs6, evs7, evs8, Nat.reduceEqDiff, Nat.reduceBEq, Nat.reduceAdd, Nat.reduceMul, Nat.reduceLeDiff, Nat.reduceLT, ↓reduceIte, reduceCtorEq, Int.reduceLT, Int.reduceLE, Int.reduceNeg, Int.reduceAdd, Int.reduceSub, Int.reduceMul, Int.reduceEq, Int.reduceToNat, if_true, if_false]) | ((first | refine callvR_y mixed ?_ | refine uR_step mixed ?_) <;> simp (disch := first | omega | (simp only [List.length_cons, List.length_nil, Nat.reduceAdd, Nat.reduceLeDiff, Nat.zero_add]; done)) only [c79, Stk.cells, evs1, evs2, evs3, evs4, evs5, evs6, evs7, evs8, Nat.reduceEqDiff, Nat.reduceBEq, Nat.reduceAdd, Nat.reduceMul, Nat.reduceLeDiff, Nat.reduceLT, ↓reduceIte, reduceCtorEq, Int.reduceLT, Int.reduceLE, Int.reduceNeg, Int.reduceAdd, Int.reduceSub, Int.reduceMul, Int.reduceEq, Int.reduceToNat, if_true, if_false]) | ((first | refine gR_part (fun e => ?_) (fun e => ?_) | refine gR_partN (fun e => ?_) (fun e => ?_) | refine cR_part (fun e => ?_) (fun e => ?_) | refine cR_partN (fun e => ?_) (fun e => ?_)) <;> simp (disch := first | omega | (simp only [List.length_cons, List.length_nil, Nat.reduceAdd, Nat.reduceLeDiff, Nat.zero_add]; done)) only [e, c79, Stk.cells, evs1, evs2, evs3, evs4, evs5, evs6, evs7, evs8, Nat.reduceEqDiff, Nat.reduceBEq, Nat.reduceAdd, Nat.reduceMul, Nat.reduceLeDiff, Nat.reduceLT, ↓reduceIte, reduceCtorEq, Int.reduceLT, Int.reduceLE, Int.reduceNeg, Int.reduceAdd, Int.reduceSub, Int.reduceMul, Int.reduceEq, Int.reduceToNat, if_true, if_false]))
  exact hK _ _ ⟨⟨_, rfl⟩, .inl rfl, rfl⟩

theorem mr_rec (v : Value) (w : World) : (method (Try.prog.types.size + Made.depth) 96 v "pencilworks/shade.bounds").run Try.prog w = .ok (74, v) w := by kernel_rfl
theorem mr_str (v : Value) (w : World) : (method (Try.prog.types.size + Made.depth) 101 v "pencilworks/shade.bounds").run Try.prog w = .ok (79, v) w := by kernel_rfl
theorem mt_rec (v : Value) : MethR Try.prog 96 "pencilworks/shade.bounds" v 74 v := fun ι v' w hv => ⟨v', mr_rec v' w, hv⟩
theorem mt_str (v : Value) : MethR Try.prog 101 "pencilworks/shade.bounds" v 79 v := fun ι v' w hv => ⟨v', mr_str v' w, hv⟩
end Go.Proofs.Ytkpafafiaicfpaa
