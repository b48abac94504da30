/- The abstract logic in which the functions of the program are walked, part 11. No condition. -/
import Derived.Test.YtkpafafiaicfpaaPwI2
import Derived.RangeFuncLeaves
set_option linter.unusedSimpArgs false
set_option linter.unusedVariables false
set_option linter.unusedSectionVars false
/-! The abstract logic, part J: calls, single operations. -/
namespace Go.Pw
open Go.RowKit (Below)

section
variable (P : Program)

/-- What has been left behind: a value, the heap. -/
def Post (w0 : Fr) (ι : Inj) (n : Nat) (K : Value → AH → Prop) (u : Value) (w' : World) : Prop :=
  ∃ v h' ι', K v h' ∧ n ≤ h'.length ∧ Ext n ι ι' ∧ VR ι' v u ∧ HR (flatC P) w0 ι' h' w'

/-- A call enters the function. -/
def Ent (f : FuncId) : Prop := ∀ args w, (callFunc f args).run P w = .ok (.enter f args) w

/-- The function, called so, returns, and leaves what K says. -/
def ACalls (f : FuncId) (args : List Value) (h : AH) (K : Value → AH → Prop) : Prop :=
  Ent P f ∧ ∀ (w0 : Fr) (ι : Inj) (w : World) (args' : Array Value), CR ι args args'.toList → HR (flatC P) w0 ι h w →
    CallsIn Fence.wide 0 P f args' w fun e w' => ∃ u, e = .returned u ∧ Post P w0 ι h.length K u w'

/-- The yield of a loop, called so. -/
def AYields (l : Nat) (args : List Value) (h : AH) (K : Value → AH → Prop) : Prop :=
  ∀ (w0 : Fr) (ι : Inj) (w : World) (args' : Array Value) (l' : Nat), CR ι args args'.toList → HR (flatC P) w0 ι h w → ι l = some (l', 0, none) →
    ∃ fn tmps asg body, (Instr.yield l' args').run P w = .ok (.round l' fn tmps asg body) w ∧
      RoundIn Fence.wide 0 P l' fn tmps asg body w fun e w' => ∃ u, e = .returned u ∧ Post P w0 ι h.length K u w'

/-- A function's value, called so. -/
def ACallV (f : Value) (args : List Value) (h : AH) (K : Value → AH → Prop) : Prop :=
  match f with
  | .func (.func g) x y => ACalls P g (x.toList ++ args ++ y.toList) h K
  | .func (.yield l) x _ => x = #[] ∧ AYields P l args h K
  | _ => False

/-- The method of what is in an interface, and its receiver. -/
def MethR (t : TypeId) (name : String) (v : Value) (f : FuncId) (r : Value) : Prop :=
  ∀ (ι : Inj) (v' : Value) (w : World), VR ι v v' → ∃ r', (method (P.types.size + Made.depth) t v' name).run P w = .ok (f, r') w ∧ VR ι r r'

def AInv (t : TypeId) (v : Value) (name : String) (args : List Value) (h : AH) (K : Value → AH → Prop) : Prop :=
  ∃ f r, MethR P t name v f r ∧ ACalls P f (r :: args) h K

/-- One step of a range over a map: whichever entry is left. -/
def NextW (a : Addr) (h : AH) (K : Value → AH → Prop) : Prop :=
  a.off = 0 ∧ a.spot = none ∧ match h[a.block]? with
    | some (.iter none _ _) => K (.tuple #[.bool false]) h
    | some (.iter (some m) n seen) => (match h[m]? with
      | some (.map es) => es.length = n ∧ (∀ i k v, es[i]? = some (k, v) → i ∉ seen → K (.tuple #[.bool true, k, v]) (h.set a.block (.iter (some m) n (seen ++ [i])))) ∧ ((∀ i, i < n → i ∈ seen) → K (.tuple #[.bool false]) h)
      | _ => False)
    | _ => False

def opV (opc : Opc) (vs : List Value) (h : AH) (K : Value → AH → Prop) : Prop :=
  match opc with
  | .call f => ACalls P f vs h K
  | .callv => match vs with
    | f :: args => ACallV P f args h K
    | [] => False
  | .inv name => match vs with
    | .iface t v :: args => AInv P t v name args h K
    | _ => False
  | .next => match vs with
    | [.pointer (some a)] => NextW a h K
    | _ => False
  | opc => match semE h.length opc vs h with
    | some (v, nb, h') => K v (h' ++ nb.toList)
    | none => False

end

section
variable {P : Program} {w0 : Fr} {w : World} {ι : Inj} {h h' : AH} {opc : Opc} {vs : List Value} {v : Value} {nb : Option Blk} {b : Nat}

theorem Post.mono {n : Nat} {K K' : Value → AH → Prop} {u : Value} (hp : Post P w0 ι n K u w) (hk : ∀ v h, K v h → K' v h) : Post P w0 ι n K' u w :=
  let ⟨v, h', ι', k, r⟩ := hp; ⟨v, h', ι', hk _ _ k, r⟩

theorem ACalls.mono {f : FuncId} {args : List Value} {K K' : Value → AH → Prop} (hc : ACalls P f args h K) (hk : ∀ v h, K v h → K' v h) : ACalls P f args h K' :=
  ⟨hc.1, fun w0 ι w args' ha hr => (hc.2 w0 ι w args' ha hr).mono fun _ _ ⟨u, e, p⟩ => ⟨u, e, p.mono hk⟩⟩

theorem AYields.mono {l : Nat} {args : List Value} {K K' : Value → AH → Prop} (hc : AYields P l args h K) (hk : ∀ v h, K v h → K' v h) : AYields P l args h K' :=
  fun w0 ι w args' l' ha hr hl => let ⟨fn, tmps, asg, body, e, r⟩ := hc w0 ι w args' l' ha hr hl; ⟨fn, tmps, asg, body, e, r.mono fun _ _ ⟨u, e, p⟩ => ⟨u, e, p.mono hk⟩⟩

theorem ACallV.mono {f : Value} {args : List Value} {K K' : Value → AH → Prop} (hc : ACallV P f args h K) (hk : ∀ v h, K v h → K' v h) : ACallV P f args h K' := by
  unfold ACallV at hc ⊢
  split
  · exact ACalls.mono hc hk
  · exact ⟨hc.1, AYields.mono hc.2 hk⟩
  · simp_all

theorem AInv.mono {t : TypeId} {v : Value} {name : String} {args : List Value} {K K' : Value → AH → Prop} (hc : AInv P t v name args h K) (hk : ∀ v h, K v h → K' v h) : AInv P t v name args h K' :=
  let ⟨f, r, a, c⟩ := hc; ⟨f, r, a, c.mono hk⟩

theorem NextW.mono {a : Addr} {K K' : Value → AH → Prop} (hc : NextW a h K) (hk : ∀ v h, K v h → K' v h) : NextW a h K' := by
  obtain ⟨h1, h2, hc⟩ := hc
  refine ⟨h1, h2, ?_⟩
  split at hc
  · exact hk _ _ hc
  · split at hc
    · exact ⟨hc.1, fun i k v e hi => hk _ _ (hc.2.1 i k v e hi), fun hh => hk _ _ (hc.2.2 hh)⟩
    · exact hc.elim
  · exact hc.elim

theorem opV.mono {K K' : Value → AH → Prop} (hc : opV P opc vs h K) (hk : ∀ v h, K v h → K' v h) : opV P opc vs h K' := by
  cases opc <;> unfold opV at hc ⊢
  case call f => exact ACalls.mono hc hk
  case callv => cases vs with
    | nil => exact hc
    | cons f args => exact ACallV.mono hc hk
  case inv name =>
    cases vs with
    | nil => exact hc
    | cons f args =>
      cases f <;> first | exact hc | exact AInv.mono hc hk
  case next =>
    simp only at hc ⊢
    split at hc
    · exact NextW.mono hc hk
    · exact hc.elim
  all_goals
    simp only at hc ⊢
    split
    · rename_i e; rw [e] at hc; exact hk _ _ hc
    · rename_i e; rw [e] at hc; exact hc

theorem wr_length {a : Addr} {cs : List Value} (hw : wr h a cs = some h') : h'.length = h.length := by
  unfold wr at hw
  split at hw
  · split at hw <;> cases hw; simp
  · split at hw <;> cases hw; simp
  · cases hw

theorem sem_length (hs : sem b opc vs h = some (v, nb, h')) : h'.length = h.length := by
  by_cases hk : opc.kind < 3
  · rcases Nat.lt_or_ge opc.kind 1 with h0 | h0
    · rw [(sem_pure (by omega) hs).2.1]
    · rcases Nat.lt_or_ge opc.kind 2 with h1 | h1
      · rw [(sem_read (by omega) hs).2.1]
      · obtain ⟨k, _, e, _⟩ := sem_alloc (by omega) hs
        rw [e]
  · cases opc <;> simp [Opc.kind] at hk
    case store n =>
      unfold sem at hs
      split at hs <;> first | (rename_i e; cases e; done) | (cases hs; done) | (rename_i e; cases e)
      split at hs
      · simp only [Option.map_eq_some_iff, Prod.mk.injEq] at hs
        obtain ⟨x, e1, rfl, rfl, rfl⟩ := hs
        exact wr_length e1
      · cases hs
    case mapUpd n =>
      unfold sem at hs
      split at hs <;> first | (rename_i e; cases e; done) | (cases hs; done) | (rename_i e; cases e)
      split at hs
      · split at hs
        · simp only [Option.map_eq_some_iff, Prod.mk.injEq] at hs
          obtain ⟨x, e1, rfl, rfl, rfl⟩ := hs
          simp
        · cases hs
      · cases hs
    all_goals
      unfold sem at hs
      split at hs <;> first | contradiction | (cases hs; done)

theorem semE_length (hs : semE b opc vs h = some (v, nb, h')) : h'.length = h.length := by
  unfold semE at hs
  split at hs
  · unfold semApp at hs
    split at hs
    · split at hs <;> cases hs
      rfl
    · simp only [Option.bind_eq_some_iff] at hs
      obtain ⟨us, _, hs⟩ := hs
      split at hs
      · split at hs
        · split at hs <;> cases hs
          rfl
        · split at hs
          · cases hs
          · split at hs
            · split at hs
              · split at hs
                · simp only [Option.map_eq_some_iff, Prod.mk.injEq] at hs
                  obtain ⟨x, e1, rfl, rfl, rfl⟩ := hs
                  exact wr_length e1
                · split at hs <;> cases hs
                  simp
              · cases hs
            · cases hs
      · cases hs
  · unfold semCopy at hs
    split at hs
    · cases hs; rfl
    · simp only [Option.bind_eq_some_iff, Option.map_eq_some_iff, Prod.mk.injEq] at hs
      obtain ⟨us, _, p, _, x, e1, rfl, rfl, rfl⟩ := hs
      exact wr_length e1
  · unfold semRange at hs
    split at hs
    · cases hs; rfl
    · split at hs <;> cases hs
      rfl
    · cases hs
  · unfold semEntry at hs
    split at hs
    · split at hs
      · split at hs
        · split at hs
          · split at hs
            · simp only [Option.map_eq_some_iff, Prod.mk.injEq] at hs
              obtain ⟨_, _, _, _, rfl⟩ := hs
              rfl
            · cases hs
          · cases hs
        · cases hs
      · cases hs
    · cases hs
  · exact sem_length hs

/-- A fence for the frame of a function (none) or of a loop's round. -/
abbrev rf (r : Option Nat) : Fence := { Fence.wide with round := r }

theorem flat_not_defer {op : Op} {x : Opc × List Operand} (hf : flatOp P op = some x) (c : Call) : op ≠ .defer c := by
  rintro rfl
  simp [flatOp] at hf

theorem OpsR.cr {ρ : Operand → Value} : ∀ {xs : List Operand} {vs : List Value}, OpsR ι ρ xs vs → CR ι vs (xs.map ρ)
  | [], [], _ => ⟨rfl, fun i v v' e => by simp at e⟩
  | x :: xs, v :: vs, h => by
    obtain ⟨h1, h2⟩ := h
    have := OpsR.cr h2
    refine ⟨by simp [this.1], fun i u u' e e' => ?_⟩
    cases i with
    | zero => simp at e e'; subst e; subst e'; exact h1
    | succ i => simp at e e'; exact this.2 i u u' e (by simpa using e')
  | [], _ :: _, h => h.elim
  | _ :: _, [], h => h.elim

theorem CR.append' {a b a' b' : List Value} (h1 : CR ι a a') (h2 : CR ι b b') : CR ι (a ++ b) (a' ++ b') := by
  refine ⟨by simp [h1.1, h2.1], fun i v v' e e' => ?_⟩
  by_cases hi : i < a.length
  · rw [List.getElem?_append_left hi] at e
    rw [List.getElem?_append_left (h1.1 ▸ hi)] at e'
    exact h1.2 i v v' e e'
  · rw [List.getElem?_append_right (by omega)] at e
    rw [List.getElem?_append_right (by have := h1.1; omega), ← h1.1] at e'
    exact h2.2 _ v v' e e'

theorem CR.ofArr {x x' : Array Value} (hx : x.size = x'.size) (hX : ∀ (i : Nat) (v v' : Value), x[i]? = some v → x'[i]? = some v' → VR ι v v') : CR ι x.toList x'.toList :=
  ⟨by simpa using hx, fun i v v' e e' => hX i v v' (by simpa using e) (by simpa using e')⟩

def Opc.calls : Opc → Bool
  | .call _ | .callv | .inv _ => true
  | _ => false

theorem flat_calls {op : Op} {xs : List Operand} (hf : flatOp P op = some (opc, xs)) (h : opc.calls = true) : ∃ c, op = .call c := by
  cases op <;> simp only [flatOp, reduceCtorEq] at hf
  case call c => exact ⟨c, rfl⟩
  all_goals
    exfalso
    cases opc <;> simp only [Opc.calls, Bool.false_eq_true] at h <;> ((repeat' split at hf) <;> first
      | (cases hf; done)
      | (rename_i heq; cases heq; done)
      | (simp [Option.bind_eq_some_iff] at hf; done)
      | (simp only [Option.bind_eq_bind, Option.bind_eq_some_iff] at hf; obtain ⟨_, _, _, _, _, _, hf⟩ := hf; (repeat' split at hf) <;> first | (cases hf; done) | (simp at hf; done)))

theorem flatCall_inv {c : Call} {ts : Array TypeId} {xs : List Operand} (hf : flatCall P c ts = some (opc, xs)) (h : opc.calls = true) :
    (∃ f, opc = .call f ∧ c.callee = .value (.func f) ∧ xs = c.args.toList) ∨ (∃ x, opc = .callv ∧ c.callee = .value x ∧ xs = x :: c.args.toList) ∨ ∃ x name, opc = .inv name ∧ c.callee = .invoke x name ∧ xs = x :: c.args.toList := by
  unfold flatCall at hf
  split at hf
  case h_1 => cases hf; exact .inl ⟨_, rfl, ‹_›, rfl⟩
  case h_2 => cases hf; exact .inr (.inl ⟨_, rfl, ‹_›, rfl⟩)
  case h_3 => cases hf; exact .inr (.inr ⟨_, _, rfl, ‹_›, rfl⟩)
  case h_5 =>
    exfalso
    simp only [Option.bind_eq_bind, Option.bind_eq_some_iff] at hf
    obtain ⟨t, _, t2, _, hf⟩ := hf
    split at hf
    · simp only [Option.bind_eq_some_iff] at hf
      obtain ⟨i, _, z, _, hf⟩ := hf
      split at hf <;> cases hf
      simp [Opc.calls] at h
    · cases hf
  case h_6 =>
    exfalso
    simp only [Option.bind_eq_bind, Option.bind_eq_some_iff] at hf
    obtain ⟨t, _, hf⟩ := hf
    split at hf
    · simp only [Option.bind_eq_some_iff] at hf
      obtain ⟨i, _, hf⟩ := hf
      split at hf <;> cases hf
      simp [Opc.calls] at h
    · cases hf
  case h_4 =>
    exfalso
    simp only [Option.bind_eq_bind, Option.bind_eq_some_iff] at hf
    obtain ⟨t, _, hf⟩ := hf
    split at hf
    · split at hf <;> cases hf
      simp [Opc.calls] at h
    · split at hf <;> cases hf
      simp [Opc.calls] at h
    · cases hf
  all_goals
    exfalso
    (repeat' split at hf) <;> first | (cases hf; done) | (cases hf; simp [Opc.calls] at h)

theorem VR.func_inv {f : Fn} {x y : Array Value} {u : Value} (h : VR ι (.func f x y) u) : ∃ f' x' y', u = .func f' x' y' ∧ FnR ι f f' ∧ CR ι x.toList x'.toList ∧ CR ι y.toList y'.toList := by
  cases h with
  | func h hx hX hy hY => exact ⟨_, _, _, rfl, h, CR.ofArr hx hX, CR.ofArr hy hY⟩

theorem OpsR.cons_inv {ρ : Operand → Value} {x : Operand} {xs : List Operand} {vs : List Value} (h : OpsR ι ρ (x :: xs) vs) : ∃ v ws, vs = v :: ws ∧ VR ι v (ρ x) ∧ OpsR ι ρ xs ws := by
  cases vs with
  | nil => exact h.elim
  | cons v ws => exact ⟨v, ws, rfl, h.1, h.2⟩

/-- What an operation is asked to leave behind. -/
def Upon (P : Program) (w0 : Fr) (ι : Inj) (h : AH) (K : Value → AH → Prop) (next : Value → World → Prop) : Prop :=
  ∀ u w' v h' ι', K v h' → h.length ≤ h'.length → Ext h.length ι ι' → VR ι' v u → HR (flatC P) w0 ι' h' w' → next u w'

theorem callsIn_rf {r : Option Nat} {n : Nat} {f : FuncId} {args : Array Value} {R : Ending → World → Prop} (h : CallsIn Fence.wide n P f args w R) : CallsIn (rf r) n P f args w R := h
theorem roundIn_rf {r : Option Nat} {n l f : Nat} {tmps : Array Value} {a c : Code} {R : Ending → World → Prop} (h : RoundIn Fence.wide n P l f tmps a c w R) : RoundIn (rf r) n P l f tmps a c w R := h

theorem enter_wp {r : Option Nat} {o : Oper} {a : Act} {next : Act → World → Prop} {Q : Exit → Act → World → Prop} {f : FuncId} {args' : Array Value} {w1 : World} {K : Value → AH → Prop}
    (hd : ∀ c, o.op ≠ .defer c) (he : (execOp a.eval o).run P w = .ok (.enter f args') w1) (hc : CallsIn Fence.wide 0 P f args' w1 fun e w' => ∃ u, e = .returned u ∧ Post P w0 ι h.length K u w')
    (hn : Upon P w0 ι h K fun u w' => next (a.put o.dst u) w') : o.wpIn (rf r) 0 P a w next Q := by
  refine ⟨fun _ _ => trivial, ?_⟩
  rw [Oper.semAt_eq _ _ _ hd, he, Oper.uponIn_enter]
  refine ⟨fun h => by simp [rf, Fence.wide] at h, (callsIn_rf hc).mono ?_⟩
  rintro e w' ⟨u, rfl, v, h', ι', k, k1, k2, k3, k4⟩
  exact hn u w' v h' ι' k k1 k2 k3 k4

theorem round_wp {r : Option Nat} {o : Oper} {a : Act} {next : Act → World → Prop} {Q : Exit → Act → World → Prop} {l f : Nat} {tmps : Array Value} {asg body : Code} {w1 : World} {K : Value → AH → Prop}
    (hd : ∀ c, o.op ≠ .defer c) (he : (execOp a.eval o).run P w = .ok (.round l f tmps asg body) w1) (hc : RoundIn Fence.wide 0 P l f tmps asg body w1 fun e w' => ∃ u, e = .returned u ∧ Post P w0 ι h.length K u w')
    (hn : Upon P w0 ι h K fun u w' => next (a.put o.dst u) w') : o.wpIn (rf r) 0 P a w next Q := by
  refine ⟨fun _ _ => trivial, ?_⟩
  rw [Oper.semAt_eq _ _ _ hd, he, Oper.uponIn_round]
  refine ⟨fun h => by simp [rf, Fence.wide] at h, (roundIn_rf hc).mono ?_⟩
  rintro e w' ⟨u, rfl, v, h', ι', k, k1, k2, k3, k4⟩
  exact hn u w' v h' ι' k k1 k2 k3 k4

theorem op_sound {r : Option Nat} {o : Oper} {a : Act} {next : Act → World → Prop} {Q : Exit → Act → World → Prop} {xs : List Operand} {K : Value → AH → Prop}
    (hf : flatOp P o.op = some (opc, xs)) (hv : OpsR ι a.eval xs vs) (hr : HR (flatC P) w0 ι h w) (hW : opV P opc vs h K)
    (hn : Upon P w0 ι h K fun u w' => next (a.put o.dst u) w') : o.wpIn (rf r) 0 P a w next Q := by
  have hdf := flat_not_defer hf
  have other : ∀ {v nb h'}, semE h.length opc vs h = some (v, nb, h') → K v (h' ++ nb.toList) → o.wpIn (rf r) 0 P a w next Q := fun {v nb h'} hs hk => by
    have hb : ι h.length = none := by
      cases e : ι h.length with
      | none => rfl
      | some y => exact absurd (hr.dom _ _ e).1 (by omega)
    obtain ⟨u, w', he, ι', hι, hvu, hH⟩ := semE_sound hf hv hr hs fun _ => hb
    have hl := semE_length hs
    have hHR : HR (flatC P) w0 ι' (h' ++ nb.toList) w' := hH _ (fun c x e => by have := (hr.dom c x e).1; simp; omega)
      (fun c l e _ hc => by
        rw [List.getElem?_append_left] at e
        · exact e
        · cases hcc : ι c with
          | none => exact absurd hcc hc
          | some y => have := (hr.dom c y hcc).1; omega)
      (fun k hk => by subst hk; rw [List.getElem?_append_right (by omega), hl]; simp)
    have hext : Ext h.length ι ι' := by
      rcases hι with rfl | ⟨_, x, rfl⟩
      · exact Ext.refl _ _
      · exact fun c hc => Inj.upd_ne _ _ (by omega)
    have hgo := hn u w' v (h' ++ nb.toList) ι' hk (by simp; omega) hext hvu hHR
    refine ⟨fun _ _ => trivial, ?_⟩
    rw [Oper.semAt_eq _ _ _ hdf]
    rcases he with he | ⟨he, rfl⟩
    · rw [he, Oper.uponIn_value]; exact hgo
    · rw [he, Oper.uponIn_skip]; exact hgo
  have semcase : (match semE h.length opc vs h with | some (v, nb, h') => K v (h' ++ nb.toList) | none => False) → o.wpIn (rf r) 0 P a w next Q := fun hm => by
    split at hm
    · rename_i e; exact other e hm
    · exact hm.elim
  by_cases hcl : opc.calls = true
  · obtain ⟨c, ho⟩ := flat_calls hf hcl
    rw [ho] at hf
    have hargs : ∀ xs : List Operand, (xs.map a.eval) = xs.map a.eval := fun _ => rfl
    rcases flatCall_inv (by simpa only [flatOp] using hf) hcl with ⟨f, rfl, hcc, rfl⟩ | ⟨x, rfl, hcc, rfl⟩ | ⟨x, name, rfl, hcc, rfl⟩
    · obtain ⟨hent, hc⟩ := hW
      refine enter_wp (f := f) (args' := c.args.map a.eval) (w1 := w) hdf ?_ (hc w0 ι w _ (by simpa using hv.cr) hr) hn
      simp only [execOp, ho, resolve, hcc, Act.eval, Deferred.ofValue, Sem.run_bind, Sem.run_pure, Result.andThen_ok, invoke]
      have := hent (c.args.map a.eval) w
      simpa using this
    · obtain ⟨f, args, rfl, hf0, hv2⟩ := hv.cons_inv
      simp only [opV, ACallV] at hW
      split at hW
      · rename_i g x1 y1
        obtain ⟨f', x', y', hu, hfn, hx, hy⟩ := hf0.func_inv
        simp only [FnR] at hfn
        subst hfn
        obtain ⟨hent, hc⟩ := hW
        refine enter_wp (f := g) (args' := x' ++ c.args.map a.eval ++ y') (w1 := w) hdf ?_ (hc w0 ι w _ (by simpa using (hx.append' (hv2.cr.append' hy))) hr) hn
        simp only [execOp, ho, resolve, hcc, hu, Deferred.ofValue, Sem.run_bind, Sem.run_pure, Result.andThen_ok, invoke]
        exact hent _ w
      · rename_i l x1 y1
        obtain ⟨f', x', y', hu, hfn, hx, hy⟩ := hf0.func_inv
        obtain ⟨rfl, hW⟩ := hW
        obtain ⟨l', hl, rfl⟩ := hfn
        have hx0 : x' = #[] := by
          have := hx.1
          simpa using this.symm
        subst hx0
        obtain ⟨fn, tmps, asg, body, e, hc⟩ := hW w0 ι w (c.args.map a.eval) l' (by simpa using hv2.cr) hr hl
        refine round_wp (w1 := w) hdf ?_ hc hn
        simp only [execOp, ho, resolve, hcc, hu, Deferred.ofValue, Sem.run_bind, Sem.run_pure, Result.andThen_ok, invoke]
        simpa using e
      · exact hW.elim
    · obtain ⟨f, args, rfl, hf0, hv2⟩ := hv.cons_inv
      simp only [opV] at hW
      split at hW
      · rename_i t v args heq
        simp only [List.cons.injEq] at heq
        obtain ⟨rfl, rfl⟩ := heq
        obtain ⟨f, rv, hm, hent, hc⟩ := hW
        generalize hu : a.eval x = u at hf0
        cases hf0 with
        | @iface _ _ v' hvv =>
          obtain ⟨r', m1, m2⟩ := hm ι _ w hvv
          have hcr : CR ι (rv :: args) (#[r'] ++ c.args.map a.eval).toList := by
            have h1 : CR ι [rv] [r'] := ⟨rfl, fun i v v' e e' => by
              cases i with
              | zero => simp at e e'; subst e; subst e'; exact m2
              | succ i => simp at e⟩
            simpa using CR.append' h1 hv2.cr
          refine enter_wp (f := f) (args' := #[r'] ++ c.args.map a.eval) (w1 := w) hdf ?_ (hc w0 ι w _ hcr hr) hn
          simp only [execOp, ho, resolve, hcc, hu, Sem.run_bind, Sem.run_pure, Result.andThen_ok, invoke]
          have := hent (#[r'] ++ c.args.map a.eval) w
          have hg : (#[Value.iface t v'] ++ Array.map a.eval c.args)[0]? = some (.iface t v') := by rw [Array.getElem?_append_left (Nat.zero_lt_one)]; rfl
          have he : (#[Value.iface t v'] ++ Array.map a.eval c.args).extract 1 (#[Value.iface t v'] ++ Array.map a.eval c.args).size = Array.map a.eval c.args := by simp
          have hp : Sem.run P program w = .ok P w := rfl
          simp only [hg, he, callMethod, Sem.run_bind, hp, Result.andThen_ok, m1]
          exact this
      · exact False.elim hW
  · by_cases hnx : opc = .next
    · subst hnx
      rcases flat_iter hf rfl with ⟨_, _, _, _, _, e, _⟩ | ⟨x, ho, _, rfl⟩ | ⟨_, _, e, _⟩
      · cases e
      · obtain ⟨v0, rfl, h0⟩ := hv.one
        simp only [opV] at hW
        split at hW
        · rename_i ad heq
          simp only [List.cons.injEq, and_true] at heq
          subst heq
          obtain ⟨z1, z2, hW⟩ := hW
          split at hW
          · rename_i n seen hh
            obtain ⟨a', m', e1, e2, e3, _, e5⟩ := iter_at hr h0 ⟨z1, z2⟩ hh
            have := e5 rfl
            subst this
            refine ⟨fun _ _ => trivial, ?_⟩
            rw [Oper.semAt_eq _ _ _ hdf]
            have hrun : (execOp a.eval o).run P w = .ok (.value (.tuple #[.bool false])) w := by
              simp only [execOp, ho, e1, Instr.next, getObj, Sem.run_bind, Sem.run, e3, Result.andThen]
              rfl
            rw [hrun, Oper.uponIn_value]
            exact hn _ w _ h ι hW (Nat.le_refl _) (Ext.refl _ _) (VR.plain 6 _ rfl) hr
          · rename_i m n seen hh
            split at hW
            · rename_i es hes
              obtain ⟨hn0, hW1, hW2⟩ := hW
              obtain ⟨a', m', e1, e2, e3, e4, _⟩ := iter_at hr h0 ⟨z1, z2⟩ hh
              obtain ⟨r', f1, rfl⟩ := e4 m rfl
              obtain ⟨_, _, E, g1, g2, g3⟩ := hr.blk m _ _ hes f1
              have hEn : E.size = n := by omega
              have hborn : ∀ i (hi : i < E.size), E[i].born = i := fun i hi => (g3 i E[i] es[i].1 es[i].2 (Array.getElem?_eq_getElem hi) (List.getElem?_eq_getElem (by omega))).1
              have hold : ∀ x ∈ E.toList, x.born < n := fun x hx => by
                obtain ⟨i, hi, rfl⟩ := List.getElem_of_mem hx
                have hi' : i < E.size := by simpa using hi
                rw [Array.getElem_toList, hborn i hi']; omega
              simp only at g1
              rw [hEn] at g1
              have hex : ∀ u W, (Instr.next (.pointer (some ⟨a', 0, none⟩)) false o.type).run P w = .ok u W → (execOp a.eval o).run P w = .ok (.value u) W := fun u W hrun => by
                simp only [execOp, ho, e1, Sem.run_bind, hrun, Result.andThen_ok, Sem.run_pure]
              refine ⟨fun _ _ => trivial, ?_⟩
              rw [Oper.semAt_eq _ _ _ hdf]
              rcases run_next_iter (P := P) (ty := o.type) e3 g1 hold with ⟨hall, hrun⟩ | ⟨e, he, hc, w1, w2, w3, w4, w5, hrun⟩
              · rw [hex _ _ hrun, Oper.uponIn_value]
                refine hn _ w _ h ι (hW2 fun i hi => ?_) (Nat.le_refl _) (Ext.refl _ _) (VR.plain 6 _ rfl) hr
                have := hall E[i] (by simp)
                rw [hborn i (by omega)] at this
                simpa using this
              · obtain ⟨i, hi, rfl⟩ := List.getElem_of_mem he
                have hi' : i < E.size := by simpa using hi
                rw [Array.getElem_toList] at hc hrun
                rw [hborn i hi'] at hc hrun
                have hes' : es[i]? = some (es[i].1, es[i].2) := List.getElem?_eq_getElem (by omega)
                obtain ⟨_, q2, q3⟩ := g3 i E[i] es[i].1 es[i].2 (Array.getElem?_eq_getElem hi') hes'
                rw [hex _ _ hrun, Oper.uponIn_value]
                refine hn _ _ _ _ ι (hW1 i _ _ hes' (by simpa using hc)) (by simp) (Ext.refl _ _) (.tuple rfl fun j x x' p p' => ?_) ?_
                · match j with
                  | 0 => simp at p p'; subst p; subst p'; exact .bool true
                  | 1 => simp at p p'; subst p; subst p'; exact q2
                  | 2 => simp at p p'; subst p; subst p'; exact q3
                  | j + 3 => simp at p
                · obtain ⟨_, b1, _⟩ := hr.blk _ _ _ hh e2
                  refine HR.set hr hh rfl rfl e2 b1 (x := .mapIter (some r') n (seen.toArray.push i) n) (by simp only [w2]) w3 w4 w5 ⟨rfl, b1, some r', (fun q e => by cases e; exact ⟨r', f1, rfl⟩), (fun e => by cases e), by simp⟩
            · exact hW.elim
          · exact hW.elim
        · exact hW.elim
      · cases e
    · cases opc <;> first | exact semcase hW | (exact absurd rfl hcl) | exact absurd rfl hnx

end
end Go.Pw
