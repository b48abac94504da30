/- Contracts of functions of the program, and what follows of them; each theorem states its conditions. -/
import Derived.Test.YtkpafafiaicfpaaZSb
set_option linter.unusedSimpArgs false
set_option linter.unusedVariables false
set_option linter.unusedSectionVars false
/-! Contracts of the package sack: what it exports. -/
namespace Go.Proofs.Ytkpafafiaicfpaa
open Go.Pw

theorem w27 (n d : Int) (h : AH) (hn : -9000000000000000000 ≤ n ∧ n ≤ 9000000000000000000) (hd : 0 < d ∧ d ≤ 1000000000) : ACalls Try.prog 27 [.int .i64 n, .int .i64 d] h fun v h' => h' = h ∧ v = .int .i64 (n / d) := by
  refine ACalls.of fun K hK => good_sound gd27 rfl (run_sound mixed ?_)
  have hd0 : d ≠ 0 := by omega
  have e0 := Int.tdiv_eq_ediv (a := n) (b := d)
  have e1 : n.tmod d = n - d * n.tdiv d := Int.tmod_def n d
  have e2 := Int.emod_nonneg n hd0
  have e3 := Int.emod_lt_of_pos n hd.1
  have e4 := Int.mul_ediv_add_emod n d
  have e5 : Int.sign d = 1 := Int.sign_eq_one_of_pos hd.1
  have b1 : -9000000000000000000 ≤ n / d := Int.le_ediv_of_mul_le hd.1 (by
    have := Int.mul_le_mul_of_nonneg_left (a := 1) (b := d) (c := 9000000000000000000) (by omega) (by omega); omega)
  have b2 : n / d ≤ 9000000000000000000 := Int.ediv_le_of_le_mul hd.1 (by
    have := Int.mul_le_mul_of_nonneg_left (a := 1) (b := d) (c := 9000000000000000000) (by omega) (by omega); omega)
  have key : (n.tmod d < 0 ∧ n.tdiv d = n / d + 1) ∨ (¬ n.tmod d < 0 ∧ n.tdiv d = n / d) := by
    rw [e5] at e0
    split at e0
    · rename_i hc
      right
      have e6 : n.tdiv d = n / d := by omega
      refine ⟨?_, e6⟩
      rw [e1, e6]; omega
    · rename_i hc
      left
      have e6 : n.tdiv d = n / d + 1 := by omega
      refine ⟨?_, e6⟩
      rw [e1, e6, Int.mul_add]; omega
  have b3 : -9000000000000000000 ≤ n.tdiv d ∧ n.tdiv d ≤ 9000000000000000001 := by omega
  (try simp (disch := first | omega | (simp only [List.length_cons, List.length_nil, Nat.reduceAdd, Nat.reduceLeDiff, Nat.zero_add]; done)) only [c27, evs1, evs2, evs3, evs4, evs5, evs6, evs7, evs8, Nat.reduceEqDiff, Nat.reduceBEq, Nat.reduceAdd, Nat.reduceMul, Nat.reduceLeDiff, Nat.reduceLT, ↓reduceIte, reduceCtorEq, Int.reduceLT, Int.reduceLE, Int.reduceNeg, Int.reduceAdd, Int.reduceSub, Int.reduceMul, Int.reduceEq, Int.reduceToNat, if_true, if_false]) <;> repeat' (first | ((first | refine callvR_y mixed ?_ | refine uR_step mixed ?_) <;> simp (disch := first | omega | (simp only [List.length_cons, List.length_nil, Nat.reduceAdd, Nat.reduceLeDiff, Nat.zero_add]; done)) only [c27, evs1, evs2, evs3, evs4, evs5, evs6, evs7, evs8, Nat.reduceEqDiff, Nat.reduceBEq, Nat.reduceAdd, Nat.reduceMul, Nat.reduceLeDiff, Nat.reduceLT, ↓reduceIte, reduceCtorEq, Int.reduceLT, Int.reduceLE, Int.reduceNeg, Int.reduceAdd, Int.reduceSub, Int.reduceMul, Int.reduceEq, Int.reduceToNat, if_true, if_false]) | ((first | refine gR_part (fun e => ?_) (fun e => ?_) | refine gR_partN (fun e => ?_) (fun e => ?_) | refine cR_part (fun e => ?_) (fun e => ?_) | refine cR_partN (fun e => ?_) (fun e => ?_)) <;> simp (disch := first | omega | (simp only [List.length_cons, List.length_nil, Nat.reduceAdd, Nat.reduceLeDiff, Nat.zero_add]; done)) only [e, c27, evs1, evs2, evs3, evs4, evs5, evs6, evs7, evs8, Nat.reduceEqDiff, Nat.reduceBEq, Nat.reduceAdd, Nat.reduceMul, Nat.reduceLeDiff, Nat.reduceLT, ↓reduceIte, reduceCtorEq, Int.reduceLT, Int.reduceLE, Int.reduceNeg, Int.reduceAdd, Int.reduceSub, Int.reduceMul, Int.reduceEq, Int.reduceToNat, if_true, if_false]))
  · exact hK _ _ ⟨rfl, by rcases key with ⟨k1, k2⟩ | ⟨k1, k2⟩
                          · rw [k2]; congr 1; omega
                          · exact absurd e k1⟩
  · exact hK _ _ ⟨rfl, by rcases key with ⟨k1, k2⟩ | ⟨k1, k2⟩
                          · exact absurd k1 e
                          · rw [k2]⟩
theorem w28 (n d : Int) (h : AH) (hn : -9000000000000000000 ≤ n ∧ n ≤ 9000000000000000000) (hd : 0 < d ∧ d ≤ 1000000000) : ACalls Try.prog 28 [.int .i64 n, .int .i64 d] h fun v h' => h' = h ∧ v = .int .i64 (-(-n / d)) := by
  refine ACalls.of fun K hK => good_sound gd28 rfl (run_sound mixed ?_)
  have b1 : -9000000000000000000 ≤ -n / d := Int.le_ediv_of_mul_le hd.1 (by
    have := Int.mul_le_mul_of_nonneg_left (a := 1) (b := d) (c := 9000000000000000000) (by omega) (by omega); omega)
  have b2 : -n / d ≤ 9000000000000000000 := Int.ediv_le_of_le_mul hd.1 (by
    have := Int.mul_le_mul_of_nonneg_left (a := 1) (b := d) (c := 9000000000000000000) (by omega) (by omega); omega)
  (try simp (disch := first | omega | (simp only [List.length_cons, List.length_nil, Nat.reduceAdd, Nat.reduceLeDiff, Nat.zero_add]; done)) only [c28, Int.zero_sub, evs1, evs2, evs3, evs4, evs5, evs6, evs7, evs8, Nat.reduceEqDiff, Nat.reduceBEq, Nat.reduceAdd, Nat.reduceMul, Nat.reduceLeDiff, Nat.reduceLT, ↓reduceIte, reduceCtorEq, Int.reduceLT, Int.reduceLE, Int.reduceNeg, Int.reduceAdd, Int.reduceSub, Int.reduceMul, Int.reduceEq, Int.reduceToNat, if_true, if_false]) <;> repeat' (first | (refine callR_eq (w27 (-n) _ _ (by omega) hd) ?_; simp (disch := first | omega | (simp only [List.length_cons, List.length_nil, Nat.reduceAdd, Nat.reduceLeDiff, Nat.zero_add]; done)) only [c28, Int.zero_sub, evs1, evs2, evs3, evs4, evs5, evs6, evs7, evs8, Nat.reduceEqDiff, Nat.reduceBEq, Nat.reduceAdd, Nat.reduceMul, Nat.reduceLeDiff, Nat.reduceLT, ↓reduceIte, reduceCtorEq, Int.reduceLT, Int.reduceLE, Int.reduceNeg, Int.reduceAdd, Int.reduceSub, Int.reduceMul, Int.reduceEq, Int.reduceToNat, if_true, if_false]) | ((first | refine callvR_y mixed ?_ | refine uR_step mixed ?_) <;> simp (disch := first | omega | (simp only [List.length_cons, List.length_nil, Nat.reduceAdd, Nat.reduceLeDiff, Nat.zero_add]; done)) only [c28, Int.zero_sub, evs1, evs2, evs3, evs4, evs5, evs6, evs7, evs8, Nat.reduceEqDiff, Nat.reduceBEq, Nat.reduceAdd, Nat.reduceMul, Nat.reduceLeDiff, Nat.reduceLT, ↓reduceIte, reduceCtorEq, Int.reduceLT, Int.reduceLE, Int.reduceNeg, Int.reduceAdd, Int.reduceSub, Int.reduceMul, Int.reduceEq, Int.reduceToNat, if_true, if_false]) | ((first | refine gR_part (fun e => ?_) (fun e => ?_) | refine gR_partN (fun e => ?_) (fun e => ?_) | refine cR_part (fun e => ?_) (fun e => ?_) | refine cR_partN (fun e => ?_) (fun e => ?_)) <;> simp (disch := first | omega | (simp only [List.length_cons, List.length_nil, Nat.reduceAdd, Nat.reduceLeDiff, Nat.zero_add]; done)) only [e, c28, Int.zero_sub, evs1, evs2, evs3, evs4, evs5, evs6, evs7, evs8, Nat.reduceEqDiff, Nat.reduceBEq, Nat.reduceAdd, Nat.reduceMul, Nat.reduceLeDiff, Nat.reduceLT, ↓reduceIte, reduceCtorEq, Int.reduceLT, Int.reduceLE, Int.reduceNeg, Int.reduceAdd, Int.reduceSub, Int.reduceMul, Int.reduceEq, Int.reduceToNat, if_true, if_false]))
  exact hK _ _ ⟨rfl, rfl⟩

/-! ### Batches -/
def zeroSt : St := ⟨⟨0, 0, 0, 0, 0, 0⟩, 0, 0⟩
def addT (l : List Sk) (m : List (Int × St)) (t : Tk) : List (Int × St) :=
  setM t.k ⟨(l[t.k.toNat]?).getD zeroSt.s, ((getM t.k m).getD zeroSt).lo + t.lo, ((getM t.k m).getD zeroSt).hi + t.hi⟩ m
def newB (l : List Sk) (b : List Tk) : List (Int × St) := b.foldl (addT l) []
theorem newB_snoc (l : List Sk) (b : List Tk) (t : Tk) : newB l (b ++ [t]) = addT l (newB l b) t := by simp [newB]

theorem mem_setM {α : Type} {k : Int} {a : α} {m : List (Int × α)} {e : Int × α} (he : e ∈ setM k a m) : e = (k, a) ∨ e ∈ m := by
  unfold setM at he
  split at he
  · rcases List.mem_append.1 he with he | he
    · exact .inr he
    · simp at he; exact .inl he
  · exact (List.mem_or_eq_of_mem_set he).symm
theorem setM_len {α : Type} {k : Int} {a : α} {m : List (Int × α)} : (setM k a m).length ≤ m.length + 1 := by
  unfold setM; split <;> simp
theorem getM_mem {α : Type} {k : Int} {a : α} {m : List (Int × α)} (he : getM k m = some a) : (k, a) ∈ m := by
  unfold getM at he
  simp only [Option.map_eq_some_iff] at he
  obtain ⟨⟨k', a'⟩, h1, rfl⟩ := he
  have h2 := List.find?_some h1
  simp at h2
  rw [← h2]
  exact List.mem_of_find?_eq_some h1

/-- What holds of the entries of a batch. -/
def EntOk (n : Nat) (e : Int × St) : Prop := e.2.s.ok ∧ (0 ≤ e.2.lo ∧ e.2.lo ≤ e.2.hi ∧ e.2.hi ≤ n * 100000)
theorem getD_ok {n : Nat} {m : List (Int × St)} (hm : ∀ e ∈ m, EntOk n e) (k : Int) : 0 ≤ ((getM k m).getD zeroSt).lo ∧ ((getM k m).getD zeroSt).lo ≤ ((getM k m).getD zeroSt).hi ∧ ((getM k m).getD zeroSt).hi ≤ n * 100000 := by
  cases e : getM k m with
  | none => simp [zeroSt]; omega
  | some a => exact (hm _ (getM_mem e)).2
theorem addT_ok {l : List Sk} (hl : ∀ s ∈ l, s.ok) {n : Nat} {m : List (Int × St)} (hm : ∀ e ∈ m, EntOk n e) {t : Tk} (ht : t.ok l.length) : ∀ e ∈ addT l m t, EntOk (n + 1) e := by
  intro e he
  have hg := getD_ok hm t.k
  obtain ⟨⟨t1, t2⟩, t3⟩ := ht
  rcases mem_setM he with rfl | he
  · refine ⟨?_, ?_⟩
    · have : t.k.toNat < l.length := by omega
      rw [List.getElem?_eq_getElem this]
      exact hl _ (List.getElem_mem this)
    · simp only; push_cast; omega
  · have := hm e he
    refine ⟨this.1, ?_⟩
    have h2 := this.2
    push_cast; omega
theorem newB_ok {l : List Sk} (hl : ∀ s ∈ l, s.ok) : ∀ (b : List Tk), (∀ t ∈ b, t.ok l.length) → ∀ e ∈ newB l b, EntOk b.length e := by
  intro b
  induction b using snoc_ind with
  | h0 => intro _ e he; simp [newB] at he
  | h1 b t ih =>
    intro hb
    rw [newB_snoc]
    have := addT_ok hl (ih fun t ht => hb t (by simp [ht])) (t := t) (hb t (by simp))
    simpa using this
theorem newB_len {l : List Sk} : ∀ (b : List Tk), (newB l b).length ≤ b.length := by
  intro b
  induction b using snoc_ind with
  | h0 => simp [newB]
  | h1 b t ih =>
    rw [newB_snoc]
    have := setM_len (k := t.k) (a := (⟨(l[t.k.toNat]?).getD zeroSt.s, ((getM t.k (newB l b)).getD zeroSt).lo + t.lo, ((getM t.k (newB l b)).getD zeroSt).hi + t.hi⟩ : St)) (m := newB l b)
    unfold addT
    simp only [List.length_append, List.length_cons, List.length_nil]
    omega

theorem getD_val (o : Option St) : (o.map St.val).getD (.agg [.int .i64 0, .int .i64 0, .int .i64 0, .int .i64 0, .int .i64 0, .int .i64 0, .int .i64 0, .int .i64 0].toArray) = (o.getD zeroSt).val := by cases o <;> rfl
theorem take_snoc {α : Type} {l : List α} {k : Nat} (hk : k < l.length) : l.take (k + 1) = l.take k ++ [l[k]] := List.take_succ_eq_append_getElem hk

theorem updK_St {k a1 a2 a3 a4 a5 a6 a7 a8 : Int} {m : List (Int × St)} : updK true (.int .i64 k) (.agg [.int .i64 a1, .int .i64 a2, .int .i64 a3, .int .i64 a4, .int .i64 a5, .int .i64 a6, .int .i64 a7, .int .i64 a8].toArray) (encM .i64 St.val m) =
    some (encM .i64 St.val (setM k ⟨⟨a1, a2, a3, a4, a5, a6⟩, a7, a8⟩ m)) := updK_enc (enc := St.val) (a := ⟨⟨a1, a2, a3, a4, a5, a6⟩, a7, a8⟩)
theorem encB_ok {n : Nat} {m : List (Int × St)} : (encB m).all (fun e => okV n 6 e.1 && okV n 6 e.2) = true := by
  rw [List.all_eq_true]
  intro x hx
  simp only [encM, List.mem_map] at hx
  obtain ⟨e, _, rfl⟩ := hx
  simp [okV, St.val, St.cells]

theorem w20 {l : List Sk} {b : List Tk} {a0 a1 : Option Addr} {c0 c1 : Nat} {h : AH} (hl : ∀ s ∈ l, s.ok) (hb : ∀ t ∈ b, t.ok l.length) (hS : SlA h 6 a0 (l.map Sk.cells)) (hT : SlA h 3 a1 (b.map Tk.cells)) (hn : l.length ≤ 8) (hn1 : b.length ≤ 8) :
    ACalls Try.prog 20 [.slice a0 l.length c0, .slice a1 b.length c1] h fun v h' => h' = h ++ [.map (encB (newB l b))] ∧ v = .map (some h.length) := by
  refine ACalls.of fun K hK => good_sound gd20 rfl (run_sound mixed ?_)
  simp (disch := first | omega | (simp only [List.length_cons, List.length_nil, Nat.reduceAdd, Nat.reduceLeDiff, Nat.zero_add]; done)) only [c20, evs1, evs2, evs3, evs4, evs5, evs6, evs7, evs8, Nat.reduceEqDiff, Nat.reduceBEq, Nat.reduceAdd, Nat.reduceMul, Nat.reduceLeDiff, Nat.reduceLT, ↓reduceIte, reduceCtorEq, Int.reduceLT, Int.reduceLE, Int.reduceNeg, Int.reduceAdd, Int.reduceSub, Int.reduceMul, Int.reduceEq, Int.reduceToNat, if_true, if_false]
  refine loopR_of mixed (X := Nat) (fun k => k ≤ b.length) (fun k => b.length - k) (fun k => [(5, .map (some h.length)), (12, .int .i64 k), (11, .int .i64 b.length), (10, .slice a1 b.length c1), (0, .slice a0 l.length c0)])
    (fun k => h ++ [.map (encB (newB l (b.take k)))]) 0 (Nat.zero_le _) ?_ (by simp [newB, encM]) ?_
  · (repeat' (first | exact subT_nil | refine subT_cons ?_ ?_)) <;> first | rfl | (simp only [lk_at, Nat.reduceBEq, lkB_t, lkB_f]; push_cast; rfl)
  rintro k hk
  (try simp (disch := first | omega | (simp only [List.length_cons, List.length_nil, Nat.reduceAdd, Nat.reduceLeDiff, Nat.zero_add]; done)) only [evs1, evs2, evs3, evs4, evs5, evs6, evs7, evs8, Nat.reduceEqDiff, Nat.reduceBEq, Nat.reduceAdd, Nat.reduceMul, Nat.reduceLeDiff, Nat.reduceLT, ↓reduceIte, reduceCtorEq, Int.reduceLT, Int.reduceLE, Int.reduceNeg, Int.reduceAdd, Int.reduceSub, Int.reduceMul, Int.reduceEq, Int.reduceToNat, if_true, if_false]) <;> repeat' (first | ((first | refine callvR_y mixed ?_ | refine uR_step mixed ?_) <;> simp (disch := first | omega | (simp only [List.length_cons, List.length_nil, Nat.reduceAdd, Nat.reduceLeDiff, Nat.zero_add]; done)) only [evs1, evs2, evs3, evs4, evs5, evs6, evs7, evs8, Nat.reduceEqDiff, Nat.reduceBEq, Nat.reduceAdd, Nat.reduceMul, Nat.reduceLeDiff, Nat.reduceLT, ↓reduceIte, reduceCtorEq, Int.reduceLT, Int.reduceLE, Int.reduceNeg, Int.reduceAdd, Int.reduceSub, Int.reduceMul, Int.reduceEq, Int.reduceToNat, if_true, if_false]) | ((first | refine gR_part (fun e => ?_) (fun e => ?_) | refine gR_partN (fun e => ?_) (fun e => ?_) | refine cR_part (fun e => ?_) (fun e => ?_) | refine cR_partN (fun e => ?_) (fun e => ?_)) <;> simp (disch := first | omega | (simp only [List.length_cons, List.length_nil, Nat.reduceAdd, Nat.reduceLeDiff, Nat.zero_add]; done)) only [e, evs1, evs2, evs3, evs4, evs5, evs6, evs7, evs8, Nat.reduceEqDiff, Nat.reduceBEq, Nat.reduceAdd, Nat.reduceMul, Nat.reduceLeDiff, Nat.reduceLT, ↓reduceIte, reduceCtorEq, Int.reduceLT, Int.reduceLE, Int.reduceNeg, Int.reduceAdd, Int.reduceSub, Int.reduceMul, Int.reduceEq, Int.reduceToNat, if_true, if_false]))
  · have hlt : k < b.length := by omega
    obtain ⟨b1, o, cs, rfl, hb1, hs⟩ := hT k (b[k]).cells (by simp [hlt])
    have ht := hb b[k] (List.getElem_mem hlt)
    have hle := (subN_len hs).2
    have hge := getD_ok (newB_ok hl (b.take k) fun t ht => hb t (List.mem_of_mem_take ht)) (b[k]).k
    have hlen : (b.take k).length = k := by simp; omega
    rw [hlen] at hge
    obtain ⟨⟨t1, t2⟩, t3⟩ := ht
    have hlt2 : (b[k]).k.toNat < l.length := by omega
    obtain ⟨b2, o2, cs2, rfl, hb2, hs2⟩ := hS (b[k]).k.toNat (l[(b[k]).k.toNat]).cells (by simp [hlt2])
    have hle2 := (subN_len hs2).2
    (try simp (disch := first | omega | (simp only [List.length_cons, List.length_nil, Nat.reduceAdd, Nat.reduceLeDiff, Nat.zero_add]; done)) only [toNat_cast, rdc_old hb1, hs, rdc_old hb2, hs2, Tk.cells, Sk.cells, getK_enc, updK_St, getD_val, St.val, St.cells, evs1, evs2, evs3, evs4, evs5, evs6, evs7, evs8, Nat.reduceEqDiff, Nat.reduceBEq, Nat.reduceAdd, Nat.reduceMul, Nat.reduceLeDiff, Nat.reduceLT, ↓reduceIte, reduceCtorEq, Int.reduceLT, Int.reduceLE, Int.reduceNeg, Int.reduceAdd, Int.reduceSub, Int.reduceMul, Int.reduceEq, Int.reduceToNat, if_true, if_false]) <;> repeat' (first | ((first | refine callvR_y mixed ?_ | refine uR_step mixed ?_) <;> simp (disch := first | omega | (simp only [List.length_cons, List.length_nil, Nat.reduceAdd, Nat.reduceLeDiff, Nat.zero_add]; done)) only [toNat_cast, rdc_old hb1, hs, rdc_old hb2, hs2, Tk.cells, Sk.cells, getK_enc, updK_St, getD_val, St.val, St.cells, evs1, evs2, evs3, evs4, evs5, evs6, evs7, evs8, Nat.reduceEqDiff, Nat.reduceBEq, Nat.reduceAdd, Nat.reduceMul, Nat.reduceLeDiff, Nat.reduceLT, ↓reduceIte, reduceCtorEq, Int.reduceLT, Int.reduceLE, Int.reduceNeg, Int.reduceAdd, Int.reduceSub, Int.reduceMul, Int.reduceEq, Int.reduceToNat, if_true, if_false]) | ((first | refine gR_part (fun e => ?_) (fun e => ?_) | refine gR_partN (fun e => ?_) (fun e => ?_) | refine cR_part (fun e => ?_) (fun e => ?_) | refine cR_partN (fun e => ?_) (fun e => ?_)) <;> simp (disch := first | omega | (simp only [List.length_cons, List.length_nil, Nat.reduceAdd, Nat.reduceLeDiff, Nat.zero_add]; done)) only [e, toNat_cast, rdc_old hb1, hs, rdc_old hb2, hs2, Tk.cells, Sk.cells, getK_enc, updK_St, getD_val, St.val, St.cells, evs1, evs2, evs3, evs4, evs5, evs6, evs7, evs8, Nat.reduceEqDiff, Nat.reduceBEq, Nat.reduceAdd, Nat.reduceMul, Nat.reduceLeDiff, Nat.reduceLT, ↓reduceIte, reduceCtorEq, Int.reduceLT, Int.reduceLE, Int.reduceNeg, Int.reduceAdd, Int.reduceSub, Int.reduceMul, Int.reduceEq, Int.reduceToNat, if_true, if_false]))
    have e1 : newB l (b.take (k + 1)) = setM (b[k]).k ⟨l[(b[k]).k.toNat], ((getM (b[k]).k (newB l (b.take k))).getD zeroSt).lo + (b[k]).lo, ((getM (b[k]).k (newB l (b.take k))).getD zeroSt).hi + (b[k]).hi⟩ (newB l (b.take k)) := by
      rw [take_snoc hlt, newB_snoc, addT, List.getElem?_eq_getElem hlt2]; rfl
    (refine round_endA (k + 1) ?_ ?_ ?_ ?_ ?_ ?_ ?_; exact (hlt); (first | omega | (dsimp only; omega) | (simp; omega)); ((repeat' (first | exact subT_nil | refine subT_cons ?_ ?_)) <;> first | rfl | (simp only [lk_at, Nat.reduceBEq, lkB_t, lkB_f]; push_cast; rfl)); (simp); (simp [e1, encB_ok]); (simp [okB, okV, e1, encB_ok]; try omega); (simp only [List.length_cons, List.length_nil, Nat.reduceAdd]; repeat' (first | exact trivial | exact .inl rfl | exact .inr rfl | (refine .inr ?_; simp [okV]; done) | (refine .inr ?_; simp [okV]; omega) | refine ⟨?_, ?_⟩)))
  · exact hK _ _ ⟨by rw [List.take_of_length_le (by omega)], rfl⟩
end Go.Proofs.Ytkpafafiaicfpaa
