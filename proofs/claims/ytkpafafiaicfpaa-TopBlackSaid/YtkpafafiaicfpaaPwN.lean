/- The abstract logic in which the functions of the program are walked, part 15. No condition. -/
import Derived.Test.YtkpafafiaicfpaaPwM
import Derived.LoopNIn
set_option linter.unusedSimpArgs false
set_option linter.unusedVariables false
set_option linter.unusedSectionVars false
/-! The abstract logic, part N: code. -/
namespace Go.Pw
open Go.RowKit (Below)

inductive Ex where
  | nrm | ex (id : Nat) | ret
  deriving DecidableEq
def Ex.out : Ex → Exit
  | .nrm => .normal
  | .ex id => .exit id
  | .ret => .ret

/-- The marks of loops among the deferred calls. -/
def Mk (ns : List Nat) : List Deferred := ns.map fun D => { target := .collected D, args := #[] }
def Fr.add (w0 : Fr) (ns : List Nat) : Fr := { w0 with marks := ns ++ w0.marks }

def RR (ι : Inj) : Option Nat → Option Nat → Prop
  | none, none => True
  | some l, some l' => ι l = some (l', 0, none)
  | _, _ => False

def APost (P : Program) (N : Nat) (w0 : Fr) (ι : Inj) (n : Nat) (ds : List Deferred) (Q : Ex → Tm → AH → Prop) (e : Exit) (a' : Act) (w' : World) : Prop :=
  ∃ x σ' h' ι' ns, e = Ex.out x ∧ Q x σ' h' ∧ n ≤ h'.length ∧ Ext n ι ι' ∧ Rel P (w0.add ns) N ι' σ' h' a' w' ∧ a'.defers = Mk ns ++ ds ∧ ns.Nodup ∧ ∀ k ∈ ns, k ∉ w0.marks ∧ w0.heap.size ≤ k

/-- What the code leaves behind. -/
def AW (P : Program) (N : Nat) (r : Option Nat) (c : AC) (Q : Ex → Tm → AH → Prop) (σ : Tm) (h : AH) : Prop :=
  ∀ (C : Code) (w0 : Fr) (ι : Inj) (a : Act) (w : World) (r' : Option Nat), flatC P N C = some c → Rel P w0 N ι σ h a w → RR ι r r' → (∀ l, r = some l → l < h.length) →
    C.wpIn (rf r') 0 P (APost P N w0 ι h.length a.defers Q) a w

section
variable {P : Program} {N : Nat} {w0 : Fr} {ι : Inj} {r : Option Nat} {c c1 c2 : AC} {Q Q' : Ex → Tm → AH → Prop} {σ : Tm} {h : AH} {w : World} {a : Act}

theorem RR.ext {ι ι' : Inj} {n : Nat} {r r' : Option Nat} (hx : Ext n ι ι') (h : RR ι r r') (hl : ∀ l, r = some l → l < n) : RR ι' r r' := by
  cases r <;> cases r' <;> simp only [RR] at h ⊢
  rw [hx _ (hl _ rfl)]; exact h

theorem Fr.add_nil (w0 : Fr) : w0.add [] = w0 := rfl
theorem Fr.add_add (w0 : Fr) (a b : List Nat) : (w0.add a).add b = w0.add (b ++ a) := by simp [Fr.add]
theorem Mk_append (a b : List Nat) : Mk (a ++ b) = Mk a ++ Mk b := by simp [Mk]

theorem APost.mono {n : Nat} {ds : List Deferred} {e : Exit} (hp : APost P N w0 ι n ds Q e a w) (hq : ∀ x σ h, Q x σ h → Q' x σ h) : APost P N w0 ι n ds Q' e a w :=
  let ⟨x, σ', h', ι', ns, e, q, r⟩ := hp; ⟨x, σ', h', ι', ns, e, hq _ _ _ q, r⟩

theorem APost.trans {n n' : Nat} {ι ι' : Inj} {ns : List Nat} {ds : List Deferred} {e : Exit} (hn : n ≤ n') (hx : Ext n ι ι') (hnd : ns.Nodup) (hdis : ∀ k ∈ ns, k ∉ w0.marks ∧ w0.heap.size ≤ k)
    (hp : APost P N (w0.add ns) ι' n' (Mk ns ++ ds) Q e a w) : APost P N w0 ι n ds Q e a w := by
  obtain ⟨x, σ', h', ι2, ms, e, q, q1, q2, q3, q4, q5, q6⟩ := hp
  refine ⟨x, σ', h', ι2, ms ++ ns, e, q, Nat.le_trans hn q1, hx.trans q2 hn, by rw [← Fr.add_add]; exact q3, by rw [q4, Mk_append, List.append_assoc], ?_, ?_⟩
  · rw [List.nodup_append]
    exact ⟨q5, hnd, fun x hx y hy hxy => by subst hxy; exact (q6 x hx).1 (List.mem_append_left _ hy)⟩
  · intro k hk
    rcases List.mem_append.1 hk with hk | hk
    · exact ⟨fun hm => (q6 k hk).1 (List.mem_append_right _ hm), (q6 k hk).2⟩
    · exact hdis k hk

theorem APost.now {x : Ex} {ds : List Deferred} (hq : Q x σ h) (hr : Rel P w0 N ι σ h a w) (hd : a.defers = ds) : APost P N w0 ι h.length ds Q (Ex.out x) a w :=
  ⟨x, σ, h, ι, [], rfl, hq, Nat.le_refl _, Ext.refl _ _, hr, by rw [hd]; rfl, List.nodup_nil, fun k hk => by simp at hk⟩

theorem AW.mono (hw : AW P N r c Q σ h) (hq : ∀ x σ h, Q x σ h → Q' x σ h) : AW P N r c Q' σ h :=
  fun C w0 ι a w r' hf hr hrr hl => wpIn_mono (hw C w0 ι a w r' hf hr hrr hl) fun _ _ _ hp => hp.mono hq

theorem flatReg_reg {ops : Array Oper} {draw : Bool} (hf : flatReg P N ops draw = some c) : ∃ its, c = .reg its := by
  unfold flatReg at hf
  simp only [Option.bind_eq_some_iff] at hf
  obtain ⟨fo, h1, h2⟩ := hf
  split at h2
  · cases h2; exact ⟨_, rfl⟩
  · split at h2 <;> cases h2
    exact ⟨_, rfl⟩

def Inv (P : Program) (N : Nat) (C : Code) : AC → Prop
  | .skip => C = .skip ∨ ∃ l, C = .label l
  | .reg its => ∃ id ops draw, C = .region id ops draw ∧ flatReg P N ops draw = some (.reg its)
  | .seq x y => ∃ a b, C = .seq a b ∧ flatC P N a = some x ∧ flatC P N b = some y
  | .cond o x y => ∃ a b, C = .cond o a b ∧ plainO o = true ∧ flatC P N a = some x ∧ flatC P N b = some y
  | .block id x => ∃ a, C = .block id a ∧ flatC P N a = some x
  | .loop x => ∃ a, C = .loop a ∧ flatC P N a = some x
  | .rangeF f ps x y => ∃ (ps' : Array Tmp) (a b : Code), C = .rangeFunc f ps' a b ∧ ps = ps'.toList ∧ plainO f = true ∧ ps'.all (fun p => decide (p < N)) = true ∧ flatC P N a = some x ∧ flatC P N b = some y
  | .exit id => C = .exit id
  | .ret => C = .ret
  | .scope x => ∃ a, C = .scope a ∧ flatC P N a = some x

theorem flatC_inv {C : Code} (hf : flatC P N C = some c) : Inv P N C c := by
  cases C <;> simp only [flatC, reduceCtorEq] at hf
  case skip => cases hf; exact .inl rfl
  case label l => cases hf; exact .inr ⟨l, rfl⟩
  case region id ops draw =>
    obtain ⟨its, rfl⟩ := flatReg_reg hf
    exact ⟨id, ops, draw, rfl, hf⟩
  case seq a b =>
    simp only [Option.bind_eq_some_iff, Option.map_eq_some_iff] at hf
    obtain ⟨x, h1, y, h2, rfl⟩ := hf
    exact ⟨a, b, rfl, h1, h2⟩
  case cond o a b =>
    split at hf
    · rename_i hp
      simp only [Option.bind_eq_some_iff, Option.map_eq_some_iff] at hf
      obtain ⟨x, h1, y, h2, rfl⟩ := hf
      exact ⟨a, b, rfl, hp, h1, h2⟩
    · cases hf
  case block id a =>
    simp only [Option.map_eq_some_iff] at hf
    obtain ⟨x, h1, rfl⟩ := hf
    exact ⟨a, rfl, h1⟩
  case loop a =>
    simp only [Option.map_eq_some_iff] at hf
    obtain ⟨x, h1, rfl⟩ := hf
    exact ⟨a, rfl, h1⟩
  case rangeFunc f ps a b =>
    split at hf
    · rename_i hp
      simp only [Option.bind_eq_some_iff, Option.map_eq_some_iff] at hf
      obtain ⟨x, h1, y, h2, rfl⟩ := hf
      exact ⟨ps, a, b, rfl, rfl, hp.1, hp.2, h1, h2⟩
    · cases hf
  case exit id => cases hf; exact rfl
  case ret => cases hf; exact rfl
  case scope a =>
    simp only [Option.map_eq_some_iff] at hf
    obtain ⟨x, h1, rfl⟩ := hf
    exact ⟨a, rfl, h1⟩

theorem AW.reg {its : List It} (hm : P.follows .mixedOrders = true) (hw : regW P its σ h (Q .nrm)) : AW P N r (.reg its) Q σ h := by
  intro C w0 ι a w r' hf hr hrr hl
  obtain ⟨id, ops, draw, rfl, hf⟩ := flatC_inv hf
  exact reg_sound hm hf hr rfl (fun σ' h' ι' a' w' hk hn hx hr' hd => ⟨.nrm, σ', h', ι', [], rfl, hk, hn, hx, hr', by rw [hd]; rfl, List.nodup_nil, fun k hk => by simp at hk⟩) hw

theorem AW.skip (hq : Q .nrm σ h) : AW P N r .skip Q σ h := by
  intro C w0 ι a w r' hf hr hrr hl
  rcases flatC_inv hf with rfl | ⟨l, rfl⟩
  · exact wpIn_skip (APost.now hq hr rfl)
  · exact wpIn_label (APost.now hq hr rfl)

theorem AW.exit {id : Nat} (hq : Q (.ex id) σ h) : AW P N r (.exit id) Q σ h := by
  intro C w0 ι a w r' hf hr hrr hl
  cases flatC_inv hf
  exact wpIn_exit (APost.now (x := .ex id) hq hr rfl)

theorem AW.ret (hq : Q .ret σ h) : AW P N r .ret Q σ h := by
  intro C w0 ι a w r' hf hr hrr hl
  cases flatC_inv hf
  exact wpIn_ret (APost.now (x := .ret) hq hr rfl)

/-- What is asked of the first of two pieces of code. -/
def SeqQ (P : Program) (N : Nat) (r : Option Nat) (c2 : AC) (Q : Ex → Tm → AH → Prop) : Ex → Tm → AH → Prop
  | .nrm, σ, h => AW P N r c2 Q σ h
  | x, σ, h => Q x σ h

theorem AW.seq (hw : AW P N r c1 (SeqQ P N r c2 Q) σ h) : AW P N r (.seq c1 c2) Q σ h := by
  intro C w0 ι a w r' hf hr hrr hl
  obtain ⟨A, B, rfl, h1, h2⟩ := flatC_inv hf
  refine wpIn_seq (wpIn_mono (hw A w0 ι a w r' h1 hr hrr hl) fun e a' w' hp => ?_)
  obtain ⟨x, σ', h', ι', ns, rfl, q, q1, q2, q3, q4, q5, q6⟩ := hp
  cases x with
  | nrm =>
    have hw2 := q B (w0.add ns) ι' a' w' r' h2 q3 (hrr.ext q2 hl) (fun l e => Nat.lt_of_lt_of_le (hl l e) q1)
    rw [q4] at hw2
    exact wpIn_mono hw2 fun e a2 w2 hp => hp.trans q1 q2 q5 q6
  | ex id => exact ⟨.ex id, σ', h', ι', ns, rfl, q, q1, q2, q3, q4, q5, q6⟩
  | ret => exact ⟨.ret, σ', h', ι', ns, rfl, q, q1, q2, q3, q4, q5, q6⟩

theorem AW.cond {o : Operand} {b : Bool} (ho : aev σ o = some (.bool b)) (hw : AW P N r (if b then c1 else c2) Q σ h) : AW P N r (.cond o c1 c2) Q σ h := by
  intro C w0 ι a w r' hf hr hrr hl
  obtain ⟨A, B, rfl, hp, h1, h2⟩ := flatC_inv hf
  have hv := aevs_sound (a := a) (xs := [o]) (vs := [.bool b]) (fun t _ => hr.tr.t1 t) (by simp [hp]) (by simp [aevs, ho])
  have he : a.eval o = .bool b := by
    have := hv.1
    generalize a.eval o = u at this
    cases this
    rfl
  refine wpIn_cond he ?_
  cases b
  · exact hw B w0 ι a w r' h2 hr hrr hl
  · exact hw A w0 ι a w r' h1 hr hrr hl

def BlkQ (id : Nat) (Q : Ex → Tm → AH → Prop) : Ex → Tm → AH → Prop
  | .ex i, σ, h => if i = id then Q .nrm σ h else Q (.ex i) σ h
  | x, σ, h => Q x σ h

theorem AW.block {id : Nat} (hw : AW P N r c (BlkQ id Q) σ h) : AW P N r (.block id c) Q σ h := by
  intro C w0 ι a w r' hf hr hrr hl
  obtain ⟨A, rfl, h1⟩ := flatC_inv hf
  refine wpIn_block (wpIn_mono (hw A w0 ι a w r' h1 hr hrr hl) fun e a' w' hp => ?_)
  obtain ⟨x, σ', h', ι', ns, rfl, q, rest⟩ := hp
  cases x with
  | nrm => exact ⟨.nrm, σ', h', ι', ns, rfl, q, rest⟩
  | ret => exact ⟨.ret, σ', h', ι', ns, rfl, q, rest⟩
  | ex i =>
    simp only [BlkQ] at q
    simp only [Ex.out, Exit.inBlock]
    split at q
    · rename_i hi; rw [if_pos hi]; exact ⟨.nrm, σ', h', ι', ns, rfl, q, rest⟩
    · rename_i hi; rw [if_neg hi]; exact ⟨.ex i, σ', h', ι', ns, rfl, q, rest⟩

/-- Only what is known less. -/
def subT (f σ : Tm) : Prop := ∀ t v, lk f t = some v → lk σ t = some v

theorem AW.sub {f : Tm} (hs : subT f σ) (hw : AW P N r c Q f h) : AW P N r c Q σ h :=
  fun C w0 ι a w r' hf hr hrr hl => hw C w0 ι a w r' hf ⟨hr.size, fun t v e => hr.tr t v (hs t v e), hr.hr⟩ hrr hl

/-- What is asked of one round of a loop. -/
def LoopQ {X : Type} (p : X → Prop) (μ : X → Nat) (f : X → Tm) (g : X → AH) (x : X) (Q : Ex → Tm → AH → Prop) : Ex → Tm → AH → Prop
  | .nrm, σ, h => ∃ y, p y ∧ μ y < μ x ∧ subT (f y) σ ∧ h = g y
  | e, σ, h => Q e σ h

theorem AW.loop {X : Type} (p : X → Prop) (μ : X → Nat) (f : X → Tm) (g : X → AH) (x0 : X) (h0 : p x0) (hs : subT (f x0) σ) (hg : h = g x0)
    (hw : ∀ x, p x → AW P N r c (LoopQ p μ f g x Q) (f x) (g x)) : AW P N r (.loop c) Q σ h := by
  intro C w0 ι a w r' hf hr hrr hl
  obtain ⟨A, rfl, h1⟩ := flatC_inv hf
  have key : ∀ (m : Nat) (x : X) (ι1 : Inj) (ns : List Nat) (a1 : Act) (w1 : World), μ x < m → p x → h.length ≤ (g x).length → Ext h.length ι ι1 → Rel P (w0.add ns) N ι1 (f x) (g x) a1 w1 → a1.defers = Mk ns ++ a.defers → ns.Nodup →
      (∀ k ∈ ns, k ∉ w0.marks ∧ w0.heap.size ≤ k) → Code.roundsIn (rf r') 0 P A (APost P N w0 ι h.length a.defers Q) m a1 w1 := by
    intro m
    induction m with
    | zero => intro x _ _ _ _ hm; omega
    | succ m ih =>
      intro x ι1 ns a1 w1 hm hp hn hx hr1 hd hnd hdis
      rw [roundsIn_succ]
      refine wpIn_mono (hw x hp A (w0.add ns) ι1 a1 w1 r' h1 hr1 (hrr.ext hx hl) (fun l e => Nat.lt_of_lt_of_le (hl l e) hn)) fun e a2 w2 hp2 => ?_
      rw [hd] at hp2
      have hp3 := hp2.trans hn hx hnd hdis
      obtain ⟨x2, σ', h', ι', ns2, rfl, q, q1, q2, q3, q4, q5, q6⟩ := hp3
      cases x2 with
      | nrm =>
        obtain ⟨y, y1, y2, y3, rfl⟩ := q
        exact ih y ι' ns2 a2 w2 (by omega) y1 q1 q2 ⟨q3.size, fun t v e => q3.tr t v (y3 t v e), q3.hr⟩ q4 q5 q6
      | ex i => exact ⟨.ex i, σ', h', ι', ns2, rfl, q, q1, q2, q3, q4, q5, q6⟩
      | ret => exact ⟨.ret, σ', h', ι', ns2, rfl, q, q1, q2, q3, q4, q5, q6⟩
  refine wpIn_loop_rounds (μ x0 + 1) (key _ x0 ι [] a w (by omega) h0 (by rw [hg]; exact Nat.le_refl _) (Ext.refl _ _) ?_ rfl List.nodup_nil (fun k hk => by simp at hk))
  subst hg
  exact ⟨hr.size, fun t v e => hr.tr t v (hs t v e), hr.hr⟩

section scope
variable {b : Frame} {k : List Item} {cs : List Frame} {w : World}
theorem stepR_scope {c : Code} : step P (lone (b.atR a (.code (.scope c) :: k)) cs w) = .next (lone (b.atR a (.code c :: .inScope c :: k)) cs w) :=
  step_lone_go (by simp [stepG, stepG.exec, Frame.atR])
theorem stepR_inScope {c : Code} : step P (lone (b.atR a (.inScope c :: k)) cs w) = .next (lone (b.atR a k) cs w) :=
  step_lone_go (by simp [stepG, stepG.exec, Frame.atR])
end scope

theorem wpIn_scope {F : Fence} {n : Nat} {C : Code} {Q : Exit → Act → World → Prop} (hq : ∀ l a w, ¬ Q (.goto l) a w) (h : C.wpIn F n P Q a w) : (Code.scope C).wpIn F n P Q a w := by
  intro b k cs hro hb hr
  have h0 : (lone (b.atR a (.code (.scope C) :: k)) cs w).fenced P F := fenced_calm hb hr rfl
  obtain ⟨e, a₁, w₁, hq1, harr⟩ := h b (.inScope C :: k) cs hro hb hr
  cases e with
  | normal => exact ⟨.normal, a₁, w₁, hq1, .head h0 stepR_scope (StepsIn.trans harr (.one (fenced_calm hb hr rfl) stepR_inScope))⟩
  | exit id =>
    have hx : exitTo id (.inScope C :: k) = exitTo id k := by simp [exitTo]
    exact ⟨.exit id, a₁, w₁, hq1, fun k' hk => .head h0 stepR_scope (harr.1 k' (by rw [hx]; exact hk)),
      fun hr' hk => let ⟨k₁, h1, h2⟩ := harr.2 hr' (by rw [hx]; exact hk); ⟨k₁, h1, .head h0 stepR_scope h2⟩⟩
  | goto l => exact absurd hq1 (hq l _ _)
  | ret => exact ⟨_, a₁, w₁, hq1, .of_steps (.one h0 stepR_scope) harr⟩
  | panic ch => exact ⟨_, a₁, w₁, hq1, .of_steps (.one h0 stepR_scope) harr⟩
  | outgrown => exact ⟨_, a₁, w₁, hq1, .of_steps (.one h0 stepR_scope) harr⟩

theorem AW.scope (hw : AW P N r c Q σ h) : AW P N r (.scope c) Q σ h := by
  intro C w0 ι a w r' hf hr hrr hl
  obtain ⟨A, rfl, h1⟩ := flatC_inv hf
  refine wpIn_scope (fun l a w hp => ?_) (hw A w0 ι a w r' h1 hr hrr hl)
  obtain ⟨x, _, _, _, _, e, _⟩ := hp
  cases x <;> cases e

end
end Go.Pw
