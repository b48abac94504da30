/- TopBlack: the statement holds of the given program, for every input. Conditions: none. -/
import Derived.Test.YtkpafafiaicfpaaZTb
import Derived.Test.YtkpafafiaicfpaaRows
import Derived.WalkKit
import Derived.ProofKit
import Derived.OpenShut
import Derived.ShutString
import Derived.ChangeOld
import Derived.SizedLaws
set_option linter.unusedSimpArgs false
set_option linter.unusedVariables false
set_option linter.unusedSectionVars false
/-! TopBlack: the statement. -/
namespace Go.Proofs.Ytkpafafiaicfpaa
open Go.Pw
open Go.ChangeShapes Go.WideShapes Go.ChangeAt Go.RowKit

theorem wf_bd {k : IntKind} {n : Int} (h : (Lit.int k n).wf = true) : k.min ≤ n ∧ n ≤ k.max := by
  simpa [Lit.wf] using h
theorem nums_cons {k : IntKind} {ks : List IntKind} {cs : List Value} {ns : List Int} (h : NumsI (k :: ks) cs ns) : ∃ n vs ms, cs = .int k n :: vs ∧ (k.min ≤ n ∧ n ≤ k.max) ∧ NumsI ks vs ms := by
  cases cs with
  | nil => exact h.elim
  | cons v vs =>
    cases v <;> try exact h.elim
    cases ns with
    | nil => exact h.elim
    | cons m ms =>
      obtain ⟨rfl, rfl, h3, h4⟩ := h
      exact ⟨_, _, _, rfl, wf_bd h3, h4⟩
theorem nums_nil {cs : List Value} {ns : List Int} (h : NumsI [] cs ns) : cs = [] := by
  cases cs with
  | nil => rfl
  | cons v vs => exact h.elim

set_option maxRecDepth 100000 in
theorem law (h : AH) (vs : List Value) (_ : RO h) (ha : all2 (ArgA Try.prog h 6) [22, 23, 24, 5, 25] vs) : ACalls Try.prog 3 vs h fun v _ => v = .bool true := by
  match vs, ha with
  | [v0, v1, v2, v3, v4], ⟨h0, h1, h2, h3, h4, _⟩ =>
    obtain ⟨x0, a0, z0, rfl, n0, s0, p0⟩ := arg_slice (d := 5) (e := 48) (by kernel_rfl) h0
    obtain ⟨x1, a1, z1, rfl, n1, s1, p1⟩ := arg_slice (d := 5) (e := 33) (by kernel_rfl) h1
    obtain ⟨x2, a2, z2, rfl, n2, s2, p2⟩ := arg_slice (d := 5) (e := 57) (by kernel_rfl) h2
    obtain ⟨x4, a4, z4, rfl, n4, s4, p4⟩ := arg_slice (d := 5) (e := 45) (by kernel_rfl) h4
    rw [show Try.prog.cellsOf 48 = 6 by kernel_rfl] at s0
    rw [show Try.prog.cellsOf 33 = 3 by kernel_rfl] at s1
    rw [show Try.prog.cellsOf 57 = 2 by kernel_rfl] at s2
    rw [show Try.prog.cellsOf 45 = 1 by kernel_rfl] at s4
    obtain ⟨l, rfl, _⟩ := list_choose (enc := Sk.cells) (p := fun _ => True) x0 fun x hx => by
      obtain ⟨ns, q⟩ := flatI_typ 5 (ks := [.i64, .i64, .i64, .i64, .i64, .i64]) (by kernel_rfl) (p0 x hx).2
      obtain ⟨m1, _, _, rfl, _, q⟩ := nums_cons q
      obtain ⟨m2, _, _, rfl, _, q⟩ := nums_cons q
      obtain ⟨m3, _, _, rfl, _, q⟩ := nums_cons q
      obtain ⟨m4, _, _, rfl, _, q⟩ := nums_cons q
      obtain ⟨m5, _, _, rfl, _, q⟩ := nums_cons q
      obtain ⟨m6, _, _, rfl, _, q⟩ := nums_cons q
      obtain rfl := nums_nil q
      exact ⟨⟨m1, m2, m3, m4, m5, m6⟩, rfl, trivial⟩
    obtain ⟨b, rfl, _⟩ := list_choose (enc := Tk.cells) (p := fun _ => True) x1 fun x hx => by
      obtain ⟨ns, q⟩ := flatI_typ 5 (ks := [.i64, .i64, .i64]) (by kernel_rfl) (p1 x hx).2
      obtain ⟨m1, _, _, rfl, _, q⟩ := nums_cons q
      obtain ⟨m2, _, _, rfl, _, q⟩ := nums_cons q
      obtain ⟨m3, _, _, rfl, _, q⟩ := nums_cons q
      obtain rfl := nums_nil q
      exact ⟨⟨m1, m2, m3⟩, rfl, trivial⟩
    obtain ⟨c, rfl, _⟩ := list_choose (enc := Tn.cells) (p := fun _ => True) x2 fun x hx => by
      obtain ⟨ns, q⟩ := flatI_typ 5 (ks := [.i64, .i64]) (by kernel_rfl) (p2 x hx).2
      obtain ⟨m1, _, _, rfl, _, q⟩ := nums_cons q
      obtain ⟨m2, _, _, rfl, _, q⟩ := nums_cons q
      obtain rfl := nums_nil q
      exact ⟨⟨m1, m2⟩, rfl, trivial⟩
    obtain ⟨by_, rfl, hby⟩ := list_choose (enc := fun n : Int => [Value.int .u32 n]) (p := fun n => 0 ≤ n ∧ n ≤ 4294967295) x4 fun x hx => by
      obtain ⟨ns, q⟩ := flatI_typ 5 (ks := [.u32]) (by kernel_rfl) (p4 x hx).2
      obtain ⟨m1, _, _, rfl, hm, q⟩ := nums_cons q
      obtain rfl := nums_nil q
      exact ⟨m1, rfl, hm⟩
    obtain ⟨tol, htol, rfl⟩ : ∃ tol : Int, (0 ≤ tol ∧ tol ≤ 255) ∧ v3 = .int .u8 tol := by
      obtain ⟨cs, hc, ht, rfl⟩ := h3
      obtain ⟨ns, q⟩ := flatI_typ 6 (ks := [.u8]) (by kernel_rfl) ht
      obtain ⟨m1, _, _, rfl, hm, q⟩ := nums_cons q
      obtain rfl := nums_nil q
      refine ⟨m1, hm, ?_⟩
      unfold argV
      rw [show Try.prog.underlying 5 = some (.int .u8) by kernel_rfl]
      rfl
    simp only [List.length_map] at n0 n1 n2 n4 ⊢
    have hmx : maxLen ≤ 2 ^ 63 - 1 := by unfold maxLen; omega
    exact w3 s0 s1 s2 s4 (by omega) (by omega) (by omega) (by omega) htol hby

theorem own : ownKnob Try.prog.godebug = none := by kernel_rfl
theorem laidOut : laidOutB Try.prog = true := by kernel_rfl

set_option maxRecDepth 100000 in
theorem lifted (os : Os) (started : os.Started) (H : Type) (enc : TypeId × Value → H) :
    ReturnsInHanded {} Try.checked os 3 .any (Rows.topBlackSpec.pre6 enc Try.prog Try.f3 Rows.topBlackRow.domain false) (Rows.topBlackSpec.post enc Try.prog Try.f3 false true false false) := by
  refine returnsInHanded_of_change (C := Try.checked) own started (by kernel_rfl) Try.func3
    (ChangeSpec.witness6 (enc := enc) (C := Try.checked) false ⟨#[], #[.slice none 0 0, .slice none 0 0, .slice none 0 0, .int .u8 0, .slice none 0 0], []⟩ 8 (by kernel_rfl) (by kernel_rfl) (by kernel_rfl) (by kernel_rfl)) ?_
  intro W base args ds gs before hval0 hW hcnd _
  have hval : ∀ (j : Nat) t v, Try.f3.params[j]? = some t → args[j]? = some v → Value.okWide Try.prog W .any base t v := hval0
  have hW' := hW
  obtain ⟨p, q, hA0, hV, rfl, hfz, hnd⟩ := hW
  have hA : DataW.TrodAll enc Try.prog W 0 (fun _ => true) true Try.f3.params.toList args.toList ds p := hA0
  rw [Try.params3] at hA hval
  have hA1 := hA
  obtain ⟨v0, vs0, d0, ds0, p0, q0, hargs, rfl, rfl, h0, r0⟩ := trodAll_cons hA
  obtain ⟨v1, vs1, d1, ds1, p1, q1, rfl, rfl, rfl, h1, r1⟩ := trodAll_cons r0
  obtain ⟨v2, vs2, d2, ds2, p2, q2, rfl, rfl, rfl, h2, r2⟩ := trodAll_cons r1
  obtain ⟨v3, vs3, d3, ds3, p3, q3, rfl, rfl, rfl, h3, r3⟩ := trodAll_cons r2
  obtain ⟨v4, vs4, d4, ds4, p4, q4, rfl, rfl, rfl, h4, r4⟩ := trodAll_cons r3
  obtain ⟨rfl, rfl, rfl⟩ := trodAll_nil r4
  obtain rfl : args = #[v0, v1, v2, v3, v4] := by cases args; simp_all
  obtain ⟨rfl, rfl⟩ := trodVars_none hV
  have lt : ∀ (t : TypeId) (v : Value) (d : DataW H) (ps : List MemPlace), DataW.Trod enc Try.prog W 0 (fun _ => true) true t v d ps → ∀ x ∈ ps, x.block < W.heap.size := fun t v d ps k => by obtain ⟨m, hm⟩ := k; exact DataW.trod_lt m _ _ _ hm
  refine (calls_true (d := 6) (base := base) hA1 ⟨hval 0 _ _ rfl rfl, hval 1 _ _ rfl rfl, hval 2 _ _ rfl rfl, hval 3 _ _ rfl rfl, hval 4 _ _ rfl rfl, trivial⟩ (by kernel_rfl) law).mono fun e W' ⟨he, bel⟩ => ?_
  subst he
  exact ⟨_, rfl, _, _, _, [], _, [], hW', trodAll_mk1 (shut_bool Try.underlying4 _),
    trodAll_cons_mk (Below.trod laidOut (by kernel_rfl) (of_decide_eq_true (by kernel_rfl)) h0 bel (lt _ _ _ _ h0))
    (trodAll_cons_mk (Below.trod laidOut (by kernel_rfl) (of_decide_eq_true (by kernel_rfl)) h1 bel (lt _ _ _ _ h1))
    (trodAll_cons_mk (Below.trod laidOut (by kernel_rfl) (of_decide_eq_true (by kernel_rfl)) h2 bel (lt _ _ _ _ h2))
    (trodAll_cons_mk (Below.trod laidOut (by kernel_rfl) (of_decide_eq_true (by kernel_rfl)) h3 bel (lt _ _ _ _ h3))
    (trodAll_cons_mk (Below.trod laidOut (by kernel_rfl) (of_decide_eq_true (by kernel_rfl)) h4 bel (lt _ _ _ _ h4)) trodAll_mk0)))), rfl, bel.frame _, fun h => by cases h⟩

theorem over_row : Rows.topBlackRow.holds Try.pinned (OpenSpec.ofChange Rows.topBlackSpec) :=
  OpenClaim.holds_of_wide 3 Try.f3 rfl rfl rfl rfl rfl rfl rfl ⟨rfl, rfl, rfl, rfl, rfl⟩ rfl rfl rfl rfl rfl (by kernel_rfl) Try.func3 (by kernel_rfl)
    (of_decide_eq_true (by kernel_rfl)) (by unfold Func.isWrapper; first | (rw [if_pos (by decide +kernel)]; kernel_rfl) | (rw [if_neg (by decide +kernel)]; exact ⟨rfl, rfl⟩))
    (fun os started H enc _ => lifted os started H enc)
theorem TopBlack_proved : Rows.TopBlackSaid := over_row
#print axioms TopBlack_proved
end Go.Proofs.Ytkpafafiaicfpaa
