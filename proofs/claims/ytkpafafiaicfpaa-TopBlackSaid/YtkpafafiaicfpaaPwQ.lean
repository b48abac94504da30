/- The abstract logic in which the functions of the program are walked, part 18. No condition. -/
import Derived.Test.YtkpafafiaicfpaaPwP
set_option linter.unusedSimpArgs false
set_option linter.unusedVariables false
set_option linter.unusedSectionVars false
/-! The abstract logic, part Q: the statement that ranges over a function. -/
namespace Go.Pw
open Go.RowKit (Below)

/-- What is asked when the function that was ranged over has returned. -/
def RngQ (b N : Nat) (σ : Tm) (ps : List Nat) (asg body : AC) (Q : Ex → Tm → AH → Prop) (_ : Value) (h : AH) : Prop :=
  match h[b]? with
  | some (.loop .ready _ _ _ _ _) => Q .nrm σ (h.set b .dead)
  | some (.loop (.done .ret) _ _ _ _ _) => Q .ret σ (h.set b .dead)
  | some (.loop (.done (.exit id)) _ _ _ _ _) => Q (.ex id) σ (h.set b .dead)
  | _ => False

section
variable {P : Program} {N : Nat} {w0 : Fr} {ι : Inj} {σ : Tm} {h : AH} {w : World} {a : Act} {FC : Nat → Code → Option AC}

theorem HR.mark (hr : HR FC w0 ι h w) : HR FC (w0.add [w.heap.size]) ι h (w.alloc (.deferred (some []))) where
  below := hr.below.trans (Below.alloc (Below.refl _ w) hr.below.size _)
  dom b y e := by have := hr.dom b y e; simp; omega
  blk b k y e i := by
    have hlt := (hr.dom b y i).2
    have : (w.alloc (.deferred (some []))).heap[y.1]? = w.heap[y.1]? := by
      show (w.heap.push _)[y.1]? = _
      rw [Array.getElem?_push, if_neg (by omega)]
    rw [this]
    exact hr.blk b k y e i
  inj := hr.inj
  mkd k hk := by
    simp only [Fr.add, List.cons_append, List.nil_append, List.mem_cons] at hk
    rcases hk with rfl | hk
    · exact ⟨World.alloc_heap_new w _, fun b y e => by have := (hr.dom b y e).2; omega⟩
    · obtain ⟨h1, h2⟩ := hr.mkd k hk
      refine ⟨?_, h2⟩
      have hlt : k < w.heap.size := (Array.getElem?_eq_some_iff.1 h1).1
      show (w.heap.push _)[k]? = _
      rw [Array.getElem?_push, if_neg (by omega)]
      exact h1

/-- The call of the function that is ranged over. -/
theorem range_call {f : Operand} {g : FuncId} {x y : Array Value} (hp : plainO f = true) (ht : TR ι σ a.tmps) (hf : aev σ f = some (.func (.func g) x y)) :
    ∃ x' y', a.eval f = .func (.func g) x' y' ∧ CR ι x.toList x'.toList ∧ CR ι y.toList y'.toList := by
  have hv := aevs_sound (a := a) (xs := [f]) (vs := [.func (.func g) x y]) (fun t _ => ht.t1 t) (by simp [hp]) (by simp [aevs, hf])
  obtain ⟨f', x', y', e1, e2, e3, e4⟩ := hv.1.func_inv
  simp only [FnR] at e2
  subst e2
  exact ⟨x', y', e1, e3, e4⟩

theorem AW.rangeF {r : Option Nat} {f : Operand} {ps : List Nat} {asg body : AC} {g : FuncId} {x y : Array Value} {Q : Ex → Tm → AH → Prop} (hf : aev σ f = some (.func (.func g) x y))
    (hin : ∀ l, r = some l → ∃ s N' σ' ps' asg' body', h[l]? = some (.loop s N' σ' ps' asg' body'))
    (hw : ACalls P g (x.toList ++ [.func (.yield h.length) #[] #[]] ++ y.toList) (h ++ [.loop .ready N σ ps asg body]) (RngQ h.length N σ ps asg body Q)) : AW P N r (.rangeF f ps asg body) Q σ h := by
  intro C w0 ι a w r' hfl hr hrr hlr
  obtain ⟨ps', A, B, rfl, rfl, hpf, hps, hA, hB⟩ := flatC_inv hfl
  obtain ⟨x', y', he, hx, hy⟩ := range_call (a := a) hpf hr.tr hf
  refine wpIn_rangeFunc fun fn _ => ?_
  have hb : ι h.length = none := by
    cases e : ι h.length with
    | none => rfl
    | some z => exact absurd (hr.hr.dom _ _ e).1 (by omega)
  -- the loop's record, once it is laid
  have main : ∀ (ns : List Nat) (w1 : World) (mark : List Deferred) (l : Nat) (rc : Loop), HR (flatC P) (w0.add ns) ι h w1 → rc.state = .ready → rc.pending = none → rc.tmps = a.tmps → rc.params = ps' → rc.assign = A → rc.body = B → l = w1.heap.size → mark = Mk ns → ns.Nodup → (∀ k ∈ ns, k ∉ w0.marks ∧ w0.heap.size ≤ k) →
      (Instr.enterLoop fn a.tmps ps' A B (rf r').round).run P w = .ok (l, mark) (w1.alloc (.loop rc)) →
      ∃ (l : Nat) (mark : List Deferred) (w₁ : World) (d : Deferred) (w₁' : World) (f0 : FuncId) (args : Array Value) (w₂ : World),
      (Instr.enterLoop fn a.tmps ps' A B (rf r').round).run P w = .ok (l, mark) w₁ ∧
      (resolve a.eval (rangeCall f l) 0).run P w₁ = .ok d w₁' ∧
      (∀ f', Target.leads P w₁' d.target d.args = some f' → (rf r').fn f') ∧
      (invoke d.target d.args).run P w₁' = .ok (.enter f0 args) w₂ ∧
      ((rf r').depth.isSome = true → 1 ≤ 0) ∧
      CallsIn (rf r') (0 - 1) P f0 args w₂ (rangePost (rf r') 0 P l (APost P N w0 ι h.length a.defers Q) { a with defers := mark ++ a.defers }) := by
    intro ns w1 mark l rc hr1 c1 c2 c3 c4 c5 c6 hl hm hnd hdis hent
    obtain ⟨hentg, hcall⟩ := hw
    refine ⟨l, mark, w1.alloc (.loop rc), { target := .fn (.func g) y', args := x' ++ #[.func (.yield l) #[] #[]] }, w1.alloc (.loop rc), g, x' ++ #[.func (.yield l) #[] #[]] ++ y', w1.alloc (.loop rc), hent, ?_, fun _ _ => trivial, ?_, fun hh => by simp [rf, Fence.wide] at hh, ?_⟩
    · have hy0 : a.eval (.const (.func (.yield l) #[] #[])) = .func (.yield l) #[] #[] := rfl
      simp only [resolve, rangeCall, List.map_toArray, List.map_cons, List.map_nil, he, hy0, Deferred.ofValue, Sem.run_pure]
    · simp only [invoke]; exact hentg _ _
    · have hB1 : BlkR (flatC P) ι (w0.add ns).heap.size (w1.heap.size, 0, none) (.loop .ready N σ ps'.toList asg body) (some (.loop rc)) :=
        ⟨rfl, hr1.below.size, rc, rfl, by rw [c3]; exact hr.size, by rw [c3]; exact hr.tr, by rw [c4], by rw [c5]; exact hA, by rw [c6]; exact hB, c1, c2⟩
      have hr2 : HR (flatC P) (w0.add ns) (ι.upd h.length (w1.heap.size, 0, none)) (h ++ [.loop .ready N σ ps'.toList asg body]) (w1.alloc (.loop rc)) :=
        HR.lay (hr1.push [.loop .ready N σ ps'.toList asg body]) hb (by simp) hB1
      have hle : Le ι (ι.upd h.length (w1.heap.size, 0, none)) := Inj.upd_le _ hb
      have hyv : VR (ι.upd h.length (w1.heap.size, 0, none)) (.func (.yield h.length) #[] #[]) (.func (.yield l) #[] #[]) :=
        .func ⟨w1.heap.size, by simp [Inj.upd], by rw [hl]⟩ rfl (fun i v v' e => by simp at e) rfl (fun i v v' e => by simp at e)
      have hcr : CR (ι.upd h.length (w1.heap.size, 0, none)) (x.toList ++ [Value.func (.yield h.length) #[] #[]] ++ y.toList) (x' ++ #[Value.func (.yield l) #[] #[]] ++ y').toList := by
        have h1 : CR (ι.upd h.length (w1.heap.size, 0, none)) [Value.func (.yield h.length) #[] #[]] [Value.func (.yield l) #[] #[]] := ⟨rfl, fun i v v' e e' => by
          cases i with
          | zero => simp at e e'; subst e; subst e'; exact hyv
          | succ i => simp at e⟩
        simpa using ((hx.mono hle).append' h1).append' (hy.mono hle)
      refine (callsIn_rf (hcall (w0.add ns) _ _ _ hcr hr2)).mono fun e w3 => ?_
      rintro ⟨u, rfl, v, h2, ι2, k, k1, k2, k3, k4⟩
      have hi2 : ι2 h.length = some (l, 0, none) := by rw [k2 _ (by simp), hl]; simp [Inj.upd]
      have hext : Ext h.length ι ι2 := fun c hc => (k2 c (by simp; omega)).trans (Inj.upd_ne _ _ (by omega))
      have hlen : h.length ≤ h2.length := by simp at k1; omega
      -- the end of the statement
      have fin : ∀ (s : LSt) (N1 : Nat) (σ1 : Tm) (ps1 : List Nat) (asg1 body1 : AC) (X : Ex), h2[h.length]? = some (.loop s N1 σ1 ps1 asg1 body1) → Q X σ (h2.set h.length .dead) →
          (match s with
           | .ready => X = .nrm
           | .done .ret => X = .ret
           | .done (.exit id) => X = .ex id
           | _ => False) → rangePost (rf r') 0 P l (APost P N w0 ι h.length a.defers Q) { a with defers := mark ++ a.defers } (.returned u) w3 := by
        intro s N1 σ1 ps1 asg1 body1 X hh2 hq hX
        obtain ⟨b1, rc2, b2, b3, b4, b5, b6, b7, b8⟩ := k4.loopAt hi2 hh2
        have hr5 := k4.loopSet (s' := .gone) hi2 hh2 (r' := { rc2 with state := .exhausted }) b2 ⟨rfl, rfl, rfl, rfl⟩ trivial
        have hltb : h.length < h2.length := (List.getElem?_eq_some_iff.1 hh2).1
        have hr6 : HR (flatC P) (w0.add ns) ι2 (h2.set h.length .dead) (w3.putObj l (.loop { rc2 with state := .exhausted })) := by
          refine hr5.weaken (fun c z e => by have := (k4.dom c z e).1; simpa using this) fun c bk z e hlv _ => ?_
          by_cases hc : h.length = c
          · subst hc
            rw [List.getElem?_set_self hltb] at e; cases e
            simp [Blk.live] at hlv
          · rw [List.getElem?_set_ne hc] at e ⊢; exact e
        have hrel : Rel P (w0.add ns) N ι2 σ (h2.set h.length .dead) { a with defers := mark ++ a.defers } (w3.putObj l (.loop { rc2 with state := .exhausted })) :=
          ⟨hr.size, hr.tr.mono (hext.le hr.hr.Dom), hr6⟩
        have hpost : ∀ e, e = Ex.out X → APost P N w0 ι h.length a.defers Q e { a with defers := mark ++ a.defers } (w3.putObj l (.loop { rc2 with state := .exhausted })) := fun e he =>
          ⟨X, σ, _, ι2, ns, he, hq, by simpa using hlen, hext, hrel, by rw [hm], hnd, hdis⟩
        have hend : rc2.state ≠ .busy → (Instr.endLoop l).run P w3 = .ok rc2.pending (w3.putObj l (.loop { rc2 with state := .exhausted })) := fun hne => run_endLoop b2 hne
        generalize w3.putObj l (.loop { rc2 with state := .exhausted }) = W at hpost hend
        cases s with
        | ready =>
          subst hX
          refine ⟨none, _, by rw [hend (by rw [b8.1]; simp), b8.2], hpost _ rfl⟩
        | busy => exact hX.elim
        | gone => exact hX.elim
        | done pe =>
          have h9 := hend (by rw [b8.1]; simp)
          rw [b8.2] at h9
          cases pe with
          | ret => simp only at hX; subst hX; exact ⟨_, _, h9, wpIn_ret (hpost _ rfl)⟩
          | exit id => simp only at hX; subst hX; exact ⟨_, _, h9, wpIn_exit (hpost _ rfl)⟩
      unfold RngQ at k
      split at k
      · rename_i e; exact fin _ _ _ _ _ _ .nrm e k rfl
      · rename_i e; exact fin _ _ _ _ _ _ .ret e k rfl
      · rename_i e; exact fin _ _ _ _ _ _ (.ex _) e k rfl
      · exact k.elim
  cases r with
  | none =>
    cases r' with
    | some l' => exact hrr.elim
    | none =>
      refine main [w.heap.size] (w.alloc (.deferred (some []))) _ _ _ hr.hr.mark rfl rfl rfl rfl rfl rfl ?_ rfl (by simp) (fun k hk => ?_) (run_enterLoop_outer _ _ _ _ _)
      · simp
      · simp at hk; subst hk
        refine ⟨fun hm => ?_, hr.hr.below.size⟩
        have := (Array.getElem?_eq_some_iff.1 (hr.hr.mkd _ hm).1).1
        omega
  | some l0 =>
    cases r' with
    | none => exact hrr.elim
    | some l' =>
      obtain ⟨s, N', σ', ps'', asg', body', hh⟩ := hin l0 rfl
      obtain ⟨b1, rc2, b2, _⟩ := hr.hr.loopAt hrr hh
      exact main [] w [] _ _ hr.hr rfl rfl rfl rfl rfl rfl rfl rfl List.nodup_nil (fun k hk => by simp at hk) (run_enterLoop_inner b2 _ _ _ _ _)

end
end Go.Pw
