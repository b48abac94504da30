/- The abstract logic in which the functions of the program are walked, part 22. No condition. -/
import Derived.Test.YtkpafafiaicfpaaPwU
import Derived.RowKit
set_option linter.unusedSimpArgs false
set_option linter.unusedVariables false
set_option linter.unusedSectionVars false
/-! The abstract logic, part V: from a statement's row to the law, and back. -/
namespace Go.Pw
open Go.RowKit (Below)
open Go.WideShapes Go.ChangeShapes

/-- A value that came in, from its cells. -/
def argV (P : Program) (t : TypeId) (cs : List Value) : Value := match P.underlying t with
  | some (.struct _) => .agg cs.toArray
  | _ => cs.headD undef
def ArgA (P : Program) (h : AH) (d : Nat) (t : TypeId) (v : Value) : Prop := ∃ cs, cs.length = P.cellsOf t ∧ TypA P h d t cs ∧ v = argV P t cs

section
variable {P : Program} {w0 : Fr} {ι : Inj} {h : AH} {w : World} {H : Type} {enc : TypeId × Value → H}

theorem open_args (hmk : w0.marks = []) (d base : Nat) : ∀ (ts : List TypeId) (args : List Value) (ds : List (DataW H)) (ps : List MemPlace), DataW.TrodAll enc P w 0 (fun _ => true) true ts args ds ps →
    all2 (fun t v => Value.okWide P w .any base t v) ts args → ts.all (argOk P d) = true → ∀ (ι : Inj) (h : AH), HR (flatC P) w0 ι h w → RO h →
    ∃ ι' k vs, CR ι' vs args ∧ HR (flatC P) w0 ι' (h ++ k) w ∧ RO (h ++ k) ∧ Ext h.length ι ι' ∧ all2 (ArgA P (h ++ k) d) ts vs
  | [], args, ds, ps, hA, hok, _, ι, h, hr, hro => by
    obtain ⟨rfl, rfl, rfl⟩ := trodAll_nil hA
    exact ⟨ι, [], [], ⟨rfl, fun i v v' e => by simp at e⟩, by simpa using hr, by simpa using hro, Ext.refl _ _, trivial⟩
  | t :: ts, args, ds, ps, hA, hok, hT, ι, h, hr, hro => by
    obtain ⟨v, vs, d0, ds', p, q, rfl, rfl, rfl, ⟨fuel, h1⟩, h2⟩ := trodAll_cons hA
    simp only [List.all_cons, Bool.and_eq_true] at hT
    obtain ⟨ι1, k1, acs, c1, c2, c3, c4, c5, c6⟩ := open_any (FC := flatC P) (w0 := w0) hmk d t fuel _ _ hT.1 h1 ι h hr hro
    obtain ⟨ι2, k2, us, e1, e2, e3, e4, e5⟩ := open_args hmk d base ts vs ds' q h2 hok.2 hT.2 ι1 (h ++ k1) c2 c3
    have hle : Le ι1 ι2 := e4.le c2.Dom
    have hv : VR ι1 (argV P t acs) v := by
      have hokv := hok.1
      cases d with
      | zero => simp [argOk] at hT
      | succ d =>
        cases hu : P.underlying t with
        | none => simp [argOk, hu] at hT
        | some dsc =>
          have one : v.cells = #[v] → (∀ fs, dsc ≠ .struct fs) → VR ι1 (argV P t acs) v := fun hcs hns => by
            have hl : acs.length = 1 := by rw [c1.1, hcs]; rfl
            match acs, hl with
            | [u], _ =>
              have : argV P t [u] = u := by
                unfold argV
                rw [hu]
                cases dsc <;> first | rfl | exact absurd rfl (hns _)
              rw [this]
              exact c1.2 0 u v rfl (by rw [hcs]; rfl)
          cases dsc <;> simp only [argOk, hu, Bool.false_eq_true, false_and] at hT
          case bool =>
            obtain ⟨b, e, _⟩ := DataW.trod_bool hu h1
            unfold Value.okWide at hokv
            simp only [hu, Cell.okWide] at hokv
            cases v <;> first | exact one rfl (fun _ e => by cases e) | simp [Cell.ok, hu] at hokv
          case int k =>
            obtain ⟨n, rfl⟩ := okWide_int hu hokv
            exact one rfl (fun _ e => by cases e)
          case slice e =>
            obtain ⟨a, len, cap, rfl⟩ := okWide_slice hu hokv
            exact one rfl (fun _ e => by cases e)
          case struct fs =>
            unfold Value.okWide at hokv
            simp only [hu] at hokv
            obtain ⟨cs, rfl, _, _⟩ := hokv
            unfold argV
            rw [hu]
            exact .agg (by have := c1.1; simpa [Value.cells] using this) fun i x x' e e' => c1.2 i x x' (by simpa using e) (by simpa [Value.cells] using e')
    refine ⟨ι2, k1 ++ k2, argV P t acs :: us, ⟨by simp [e1.1], fun i x x' e e' => ?_⟩, by rw [← List.append_assoc]; exact e2, by rw [← List.append_assoc]; exact e3, c4.trans e4 (by simp), ?_⟩
    · cases i with
      | zero => simp at e e'; subst e; subst e'; exact hv.mono hle
      | succ i => simp at e e'; exact e1.2 i x x' e e'
    · rw [← List.append_assoc]
      exact ⟨⟨acs, c5, c6.push k2, rfl⟩, e5⟩

/-- **The law's call, from what its row says.** -/
theorem calls_true {f : FuncId} {d base : Nat} {ts : List TypeId} {args : Array Value} {ds : List (DataW H)} {ps : List MemPlace} (hA : DataW.TrodAll enc P w 0 (fun _ => true) true ts args.toList ds ps)
    (hok : all2 (fun t v => Value.okWide P w .any base t v) ts args.toList) (hT : ts.all (argOk P d) = true)
    (hlaw : ∀ (h : AH) (vs : List Value), RO h → all2 (ArgA P h d) ts vs → ACalls P f vs h fun v _ => v = .bool true) :
    Calls P f args w fun e w' => e = .returned (.bool true) ∧ Below w.heap.size w w' := by
  have hr0 : HR (flatC P) { w with marks := [] } (fun _ => none) [] w :=
    { below := Below.refl _ w
      dom := fun b y e => by cases e
      blk := fun b k y e => by simp at e
      inj := fun b c k l y z e => by cases e
      mkd := fun k hk => by simp at hk }
  obtain ⟨ι', k, vs, c1, c2, c3, c4, c5⟩ := open_args (w0 := { w with marks := [] }) rfl d base ts _ ds ps hA hok hT _ [] hr0 (fun k hk => by simp at hk)
  obtain ⟨_, hc⟩ := hlaw _ vs c3 c5
  have := hc { w with marks := [] } ι' w args c1 c2
  refine (callsIn_wide.1 this).mono ?_
  rintro e w' ⟨u, rfl, v, h', ι2, rfl, _, _, k3, k4⟩
  cases k3
  exact ⟨rfl, k4.below⟩

end
end Go.Pw
