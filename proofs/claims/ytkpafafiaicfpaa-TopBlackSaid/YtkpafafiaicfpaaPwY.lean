/- The abstract logic in which the functions of the program are walked, part 25. No condition. -/
import Derived.Test.YtkpafafiaicfpaaPwX
set_option linter.unusedSimpArgs false
set_option linter.unusedVariables false
set_option linter.unusedSectionVars false
/-! The abstract logic, part Y: loops that are told off; ways that part. -/
namespace Go.Pw

section
variable {P : Program} {N : Nat} {r : Option Nat} {c : AC} {Q : Ex → Tm → AH → Prop} {σ : Tm} {h : AH} {ks : List Kf} {its : List It} {d : Option Nat} {opc : Opc} {xs : List Operand} {a b : AC}

/-- What is asked at the end is kept out of sight. -/
theorem ACalls.of {f : FuncId} {args : List Value} {K : Value → AH → Prop} (hc : ∀ K' : Value → AH → Prop, (∀ v h', K v h' → K' v h') → ACalls P f args h K') : ACalls P f args h K := hc K fun _ _ x => x

/-- So many rounds, at most. -/
def UnR (P : Program) (N : Nat) (r : Option Nat) (c : AC) (Q : Ex → Tm → AH → Prop) : Nat → Tm → AH → Prop
  | 0, _, _ => False
  | m + 1, σ, h => AW P N r c (fun x σ h => match x with
      | .nrm => UnR P N r c Q m σ h
      | x => Q x σ h) σ h

theorem AW.unroll (m : Nat) (hw : UnR P N r c Q m σ h) : AW P N r (.loop c) Q σ h := by
  intro C w0 ι a w r' hf hr hrr hl
  obtain ⟨A, rfl, h1⟩ := flatC_inv hf
  have key : ∀ (m : Nat) (σ1 : Tm) (g1 : AH) (ι1 : Inj) (ns : List Nat) (a1 : Act) (w1 : World), UnR P N r c Q m σ1 g1 → h.length ≤ g1.length → Ext h.length ι ι1 → Rel P (w0.add ns) N ι1 σ1 g1 a1 w1 → a1.defers = Mk ns ++ a.defers → ns.Nodup →
      (∀ k ∈ ns, k ∉ w0.marks ∧ w0.heap.size ≤ k) → Code.roundsIn (rf r') 0 P A (APost P N w0 ι h.length a.defers Q) m a1 w1 := by
    intro m
    induction m with
    | zero => intro _ _ _ _ _ _ hu; exact hu.elim
    | succ m ih =>
      intro σ1 g1 ι1 ns a1 w1 hu hn hx hr1 hd hnd hdis
      rw [Go.roundsIn_succ]
      refine wpIn_mono (hu A (w0.add ns) ι1 a1 w1 r' h1 hr1 (hrr.ext hx hl) (fun l e => Nat.lt_of_lt_of_le (hl l e) hn)) fun e a2 w2 hp2 => ?_
      rw [hd] at hp2
      have hp3 := hp2.trans hn hx hnd hdis
      obtain ⟨x2, σ', h', ι', ns2, rfl, q, q1, q2, q3, q4, q5, q6⟩ := hp3
      cases x2 with
      | nrm => exact ih σ' h' ι' ns2 a2 w2 q q1 q2 q3 q4 q5 q6
      | ex i => exact ⟨.ex i, σ', h', ι', ns2, rfl, q, q1, q2, q3, q4, q5, q6⟩
      | ret => exact ⟨.ret, σ', h', ι', ns2, rfl, q, q1, q2, q3, q4, q5, q6⟩
  exact wpIn_loop_rounds m (key _ σ h ι [] a w hw (Nat.le_refl _) (Ext.refl _ _) hr rfl List.nodup_nil (fun k hk => by simp at hk))

def uR (P : Program) (N : Nat) (r : Option Nat) (ks : List Kf) (Q : Ex → Tm → AH → Prop) (c : AC) (m : Nat) (σ : Tm) (h : AH) : Prop := UnR P N r c (kQ P N r ks Q) m σ h
def QUn (P : Program) (N : Nat) (r : Option Nat) (ks : List Kf) (Q : Ex → Tm → AH → Prop) (c : AC) (m : Nat) : Ex → Tm → AH → Prop
  | .nrm, σ, h => uR P N r ks Q c m σ h
  | x, σ, h => unw P N r ks Q x σ h
theorem QUn_nrm {m : Nat} : QUn P N r ks Q c m .nrm σ h = uR P N r ks Q c m σ h := (rfl)
theorem QUn_ex {m i : Nat} : QUn P N r ks Q c m (.ex i) σ h = unw P N r ks Q (.ex i) σ h := (rfl)
theorem QUn_ret {m : Nat} : QUn P N r ks Q c m .ret σ h = unw P N r ks Q .ret σ h := (rfl)
theorem loopR_un (m : Nat) (hw : uR P N r ks Q c m σ h) : loopR P N r ks Q c σ h := AW.unroll m hw
theorem uR_step (hm : P.follows .mixedOrders = true) {m : Nat} (hw : run P N r [] (QUn P N r ks Q c m) c σ h) : uR P N r ks Q c (m + 1) σ h :=
  AW.mono (run_sound hm hw) fun x σ h hx => by cases x <;> exact hx

theorem gR_part {p : Prop} [Decidable p] {w : Bool} (h1 : p → gR P N r ks Q (some (.bool true)) w opc xs d its σ h) (h2 : ¬ p → gR P N r ks Q (some (.bool false)) w opc xs d its σ h) : gR P N r ks Q (some (.bool (decide p))) w opc xs d its σ h := by
  by_cases hp : p
  · rw [decide_eq_true hp]; exact h1 hp
  · rw [decide_eq_false hp]; exact h2 hp
theorem gR_partN {p : Prop} [Decidable p] {w : Bool} (h1 : p → gR P N r ks Q (some (.bool false)) w opc xs d its σ h) (h2 : ¬ p → gR P N r ks Q (some (.bool true)) w opc xs d its σ h) : gR P N r ks Q (some (.bool !(decide p))) w opc xs d its σ h := by
  by_cases hp : p
  · rw [decide_eq_true hp]; exact h1 hp
  · rw [decide_eq_false hp]; exact h2 hp
theorem cR_part {p : Prop} [Decidable p] (h1 : p → run P N r ks Q a σ h) (h2 : ¬ p → run P N r ks Q b σ h) : cR P N r ks Q (some (.bool (decide p))) a b σ h := by
  by_cases hp : p
  · rw [decide_eq_true hp]; exact h1 hp
  · rw [decide_eq_false hp]; exact h2 hp
theorem cR_partN {p : Prop} [Decidable p] (h1 : p → run P N r ks Q b σ h) (h2 : ¬ p → run P N r ks Q a σ h) : cR P N r ks Q (some (.bool !(decide p))) a b σ h := by
  by_cases hp : p
  · rw [decide_eq_true hp]; exact h1 hp
  · rw [decide_eq_false hp]; exact h2 hp

/-- A loop, by what holds at each round's start; what is laid in a round may be forgotten. -/
theorem loopR_of {X : Type} (hm : P.follows .mixedOrders = true) (p : X → Prop) (μ : X → Nat) (f : X → Tm) (g : X → AH) (x0 : X) (h0 : p x0) (hs : subT (f x0) σ) (hg : h = g x0)
    (hw : ∀ x, p x → run P N r [] (LoopG p μ f g σ h x (kQ P N r ks Q)) c (f x) (g x)) : loopR P N r ks Q c σ h :=
  AW.loopG p μ f g x0 h0 hs hg fun x hx => run_sound hm (hw x hx)
theorem LoopG_nrm {X : Type} {p : X → Prop} {μ : X → Nat} {f : X → Tm} {g : X → AH} {f0 : Tm} {h0 : AH} {x : X} : LoopG p μ f g f0 h0 x Q .nrm σ h =
    ∃ y junk, p y ∧ μ y < μ x ∧ subT (f y) σ ∧ h = g y ++ junk ∧ h0.length ≤ (g y).length ∧ KeepH h0 (g y) ∧ ∀ t v, lk (f y) t = some v → lk f0 t = some v ∨ okV (g y).length 6 v = true := rfl
theorem LoopG_ret {X : Type} {p : X → Prop} {μ : X → Nat} {f : X → Tm} {g : X → AH} {f0 : Tm} {h0 : AH} {x : X} : LoopG p μ f g f0 h0 x (kQ P N r ks Q) .ret σ h = unw P N r ks Q .ret σ h := (rfl)
theorem LoopG_ex {X : Type} {p : X → Prop} {μ : X → Nat} {f : X → Tm} {g : X → AH} {f0 : Tm} {h0 : AH} {x : X} {i : Nat} : LoopG p μ f g f0 h0 x (kQ P N r ks Q) (.ex i) σ h = unw P N r ks Q (.ex i) σ h := (rfl)

/-- The end of a round that leaves the heap as the loop found it, but for what is forgotten. -/
def okT (n : Nat) (f0 : Tm) : Tm → Prop
  | [] => True
  | (t, v) :: l => (lk f0 t = some v ∨ okV n 6 v = true) ∧ okT n f0 l
theorem okT_all {n : Nat} {f0 : Tm} : ∀ {l : Tm}, okT n f0 l → ∀ t v, lk l t = some v → lk f0 t = some v ∨ okV n 6 v = true
  | [], _, t, v, e => by simp [lk] at e
  | (k, u) :: l, h, t, v, e => by
    simp only [lk] at e
    split at e
    · rename_i hk; subst hk; cases e; exact h.1
    · exact okT_all h.2 t v e
theorem subT_nil : subT [] σ := fun t v e => by simp [lk] at e
theorem subT_cons {k : Nat} {v : Value} {l : Tm} (h1 : lk σ k = some v) (h2 : subT l σ) : subT ((k, v) :: l) σ := fun t u e => by
  simp only [lk] at e
  split at e
  · rename_i hk; subst hk; cases e; exact h1
  · exact h2 t u e
theorem keepH_refl (h : AH) : KeepH h h := fun _ _ e => .inl e
theorem round_end {X : Type} {p : X → Prop} {μ : X → Nat} {f : X → Tm} {g : X → AH} {f0 : Tm} {h0 : AH} {x : X} (y : X) (junk : AH) (h1 : p y) (h2 : μ y < μ x) (h3 : subT (f y) σ) (h4 : h = g y ++ junk) (h5 : h0 = g y) (h6 : okT h0.length f0 (f y)) : LoopG p μ f g f0 h0 x Q .nrm σ h :=
  ⟨y, junk, h1, h2, h3, h4, by rw [h5]; exact Nat.le_refl _, by rw [h5]; exact keepH_refl _, by rw [← h5]; exact okT_all h6⟩

/-- What was there stays where it is. -/
theorem get_old {b : Nat} {k : Blk} {l : AH} (hb : h[b]? = some k) : (h ++ l)[b]? = some k := get_push hb
theorem lt_old {b : Nat} {k : Blk} (hb : h[b]? = some k) : b < h.length := (List.getElem?_eq_some_iff.1 hb).1
theorem rdc_old {b : Nat} {cs : List Value} {l : AH} (hb : rdc h b = some cs) : rdc (h ++ l) b = some cs := by
  unfold rdc at hb ⊢
  cases e : h[b]? with
  | none => rw [e] at hb; cases hb
  | some k => rw [get_push e]; rw [e] at hb; exact hb
theorem set_old {b : Nat} {k : Blk} {l : AH} (hb : b < h.length) : (h ++ l).set b k = h.set b k ++ l := List.set_append_left _ _ hb
end
end Go.Pw
