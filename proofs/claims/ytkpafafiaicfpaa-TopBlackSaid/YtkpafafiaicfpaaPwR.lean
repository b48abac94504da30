/- The abstract logic in which the functions of the program are walked, part 19. No condition. -/
import Derived.Test.YtkpafafiaicfpaaPwQ
set_option linter.unusedSimpArgs false
set_option linter.unusedVariables false
set_option linter.unusedSectionVars false
/-! The abstract logic, part R: code, as it is reckoned step by step. What waits to be reckoned is data: no rule of rewriting looks into it. -/
namespace Go.Pw
open Go.RowKit (Below)

inductive Kf where
  | seq (b : AC)
  | blk (id : Nat)

section
variable (P : Program) (N : Nat) (r : Option Nat)

def codeW : AC → (Ex → Tm → AH → Prop) → Tm → AH → Prop
  | .skip, Q, σ, h => Q .nrm σ h
  | .reg its, Q, σ, h => regW P its σ h (Q .nrm)
  | .seq a b, Q, σ, h => codeW a (fun x σ h => match x with
      | .nrm => codeW b Q σ h
      | x => Q x σ h) σ h
  | .cond o a b, Q, σ, h => match aev σ o with
    | some (.bool t) => if t = true then codeW a Q σ h else codeW b Q σ h
    | _ => False
  | .block id a, Q, σ, h => codeW a (BlkQ id Q) σ h
  | .exit id, Q, σ, h => Q (.ex id) σ h
  | .ret, Q, σ, h => Q .ret σ h
  | .scope a, Q, σ, h => codeW a Q σ h
  | c, Q, σ, h => AW P N r c Q σ h

def kQ : List Kf → (Ex → Tm → AH → Prop) → Ex → Tm → AH → Prop
  | [], Q => Q
  | .seq b :: ks, Q => fun x σ h => match x with
    | .nrm => codeW P N r b (kQ ks Q) σ h
    | x => kQ ks Q x σ h
  | .blk id :: ks, Q => BlkQ id (kQ ks Q)

variable (ks : List Kf) (Q : Ex → Tm → AH → Prop)

/-- Code, ahead of what waits behind it. -/
def run (c : AC) (σ : Tm) (h : AH) : Prop := codeW P N r c (kQ P N r ks Q) σ h
/-- Code has been left so. -/
def unw (x : Ex) (σ : Tm) (h : AH) : Prop := kQ P N r ks Q x σ h
/-- The rest of a region. -/
def rg (its : List It) (σ : Tm) (h : AH) : Prop := regW P its σ h (kQ P N r ks Q .nrm)
/-- An operation, its operands looked up. -/
def evR (opc : Opc) (vs : Option (List Value)) (d : Option Nat) (its : List It) (σ : Tm) (h : AH) : Prop := match vs with
  | some vs => opV P opc vs h fun v h' => rg P N r ks Q its (putσ σ d v) h'
  | none => False
/-- An operation, done. -/
def stR (s : Option Step) (d : Option Nat) (its : List It) (σ : Tm) : Prop := match s with
  | some (v, nb, h') => rg P N r ks Q its (putσ σ d v) (h' ++ nb.toList)
  | none => False
/-- An operation with a guard. -/
def gR (g : Option Value) (w : Bool) (opc : Opc) (xs : List Operand) (d : Option Nat) (its : List It) (σ : Tm) (h : AH) : Prop := match g with
  | some (.bool b) => if b = w then evR P N r ks Q opc (aevs σ xs) d its σ h else rg P N r ks Q its (putσ σ d undef) h
  | some _ => rg P N r ks Q its (putσ σ d undef) h
  | none => False
/-- A branch. -/
def cR (g : Option Value) (a b : AC) (σ : Tm) (h : AH) : Prop := match g with
  | some (.bool t) => if t = true then run P N r ks Q a σ h else run P N r ks Q b σ h
  | _ => False
/-- A call. -/
def callR (f : FuncId) (vs : List Value) (d : Option Nat) (its : List It) (σ : Tm) (h : AH) : Prop := ACalls P f vs h fun v h' => rg P N r ks Q its (putσ σ d v) h'
def callvR (f : Value) (vs : List Value) (d : Option Nat) (its : List It) (σ : Tm) (h : AH) : Prop := ACallV P f vs h fun v h' => rg P N r ks Q its (putσ σ d v) h'
def invR (t : TypeId) (u : Value) (nm : String) (vs : List Value) (d : Option Nat) (its : List It) (σ : Tm) (h : AH) : Prop := AInv P t u nm vs h fun v h' => rg P N r ks Q its (putσ σ d v) h'
/-- A loop. -/
def loopR (a : AC) (σ : Tm) (h : AH) : Prop := AW P N r (.loop a) (kQ P N r ks Q) σ h
def rangeR (f : Option Value) (o : Operand) (ps : List Nat) (a b : AC) (σ : Tm) (h : AH) : Prop := f = aev σ o → AW P N r (.rangeF o ps a b) (kQ P N r ks Q) σ h
/-- What a function hands back. -/
def retR (vs : Option (List Value)) (K : Value → AH → Prop) (h : AH) : Prop := match vs with
  | some vs => K (resVal vs) h
  | none => False

end

section
variable {P : Program} {N : Nat} {r : Option Nat} {ks : List Kf} {Q : Ex → Tm → AH → Prop} {σ : Tm} {h : AH} {a b : AC} {its : List It} {d : Option Nat} {opc : Opc} {xs : List Operand} {vs : List Value} {v : Value}

theorem codeW_sound (hm : P.follows .mixedOrders = true) : ∀ (c : AC) (Q : Ex → Tm → AH → Prop) (σ : Tm) (h : AH), codeW P N r c Q σ h → AW P N r c Q σ h := by
  intro c
  induction c with
  | skip => exact fun Q σ h hw => AW.skip hw
  | reg its => exact fun Q σ h hw => AW.reg hm hw
  | seq a b iha ihb =>
    intro Q σ h hw
    refine AW.seq (AW.mono (iha _ σ h hw) fun x σ h hx => ?_)
    cases x with
    | nrm => exact ihb Q σ h hx
    | ex i => exact hx
    | ret => exact hx
  | cond o a b iha ihb =>
    intro Q σ h hw
    simp only [codeW] at hw
    split at hw
    · rename_i t e
      refine AW.cond e ?_
      cases t
      · exact ihb Q σ h hw
      · exact iha Q σ h hw
    · exact hw.elim
  | block id a ih => exact fun Q σ h hw => AW.block (ih _ σ h hw)
  | exit id => exact fun Q σ h hw => AW.exit hw
  | ret => exact fun Q σ h hw => AW.ret hw
  | scope a ih => exact fun Q σ h hw => AW.scope (ih _ σ h hw)
  | loop a _ => exact fun Q σ h hw => hw
  | rangeF f ps a b _ _ => exact fun Q σ h hw => hw

theorem run_sound (hm : P.follows .mixedOrders = true) {c : AC} (hw : run P N r [] Q c σ h) : AW P N r c Q σ h := codeW_sound hm c Q σ h hw

theorem run_skip : run P N r ks Q .skip σ h = unw P N r ks Q .nrm σ h := (rfl)
theorem run_reg : run P N r ks Q (.reg its) σ h = rg P N r ks Q its σ h := (rfl)
theorem run_seq : run P N r ks Q (.seq a b) σ h = run P N r (.seq b :: ks) Q a σ h := (rfl)
theorem run_cond {o : Operand} : run P N r ks Q (.cond o a b) σ h = cR P N r ks Q (aev σ o) a b σ h := (rfl)
theorem run_block {id : Nat} : run P N r ks Q (.block id a) σ h = run P N r (.blk id :: ks) Q a σ h := (rfl)
theorem run_exit {id : Nat} : run P N r ks Q (.exit id) σ h = unw P N r ks Q (.ex id) σ h := (rfl)
theorem run_ret : run P N r ks Q .ret σ h = unw P N r ks Q .ret σ h := (rfl)
theorem run_scope : run P N r ks Q (.scope a) σ h = run P N r ks Q a σ h := (rfl)
theorem run_loop : run P N r ks Q (.loop a) σ h = loopR P N r ks Q a σ h := (rfl)
theorem run_rangeF {o : Operand} {ps : List Nat} : run P N r ks Q (.rangeF o ps a b) σ h = rangeR P N r ks Q (aev σ o) o ps a b σ h := propext ⟨fun h _ => h, fun h => h rfl⟩
theorem unw_nil {x : Ex} : unw P N r [] Q x σ h = Q x σ h := (rfl)
theorem unw_seq : unw P N r (.seq b :: ks) Q .nrm σ h = run P N r ks Q b σ h := (rfl)
theorem unw_seq_ex {i : Nat} : unw P N r (.seq b :: ks) Q (.ex i) σ h = unw P N r ks Q (.ex i) σ h := (rfl)
theorem unw_seq_ret : unw P N r (.seq b :: ks) Q .ret σ h = unw P N r ks Q .ret σ h := (rfl)
theorem unw_blk {id : Nat} : unw P N r (.blk id :: ks) Q .nrm σ h = unw P N r ks Q .nrm σ h := (rfl)
theorem unw_blk_ret {id : Nat} : unw P N r (.blk id :: ks) Q .ret σ h = unw P N r ks Q .ret σ h := (rfl)
theorem unw_blk_ex {i : Nat} : unw P N r (.blk i :: ks) Q (.ex i) σ h = unw P N r ks Q .nrm σ h := by
  show (if i = i then _ else _) = _
  rw [if_pos rfl]; rfl
theorem unw_blk_ne {i id : Nat} (hne : i ≠ id) : unw P N r (.blk id :: ks) Q (.ex i) σ h = unw P N r ks Q (.ex i) σ h := by
  show (if i = id then _ else _) = _
  rw [if_neg hne]; rfl
theorem rg_nil : rg P N r ks Q [] σ h = unw P N r ks Q .nrm σ h := (rfl)
theorem rg_ev : rg P N r ks Q (.ev ⟨d, opc, xs, none⟩ :: its) σ h = evR P N r ks Q opc (aevs σ xs) d its σ h := by
  simp only [rg, regW, gateW, evR]; cases aevs σ xs <;> rfl
theorem rg_evg {t : Nat} {w : Bool} : rg P N r ks Q (.ev ⟨d, opc, xs, some (t, w)⟩ :: its) σ h = gR P N r ks Q (lk σ t) w opc xs d its σ h := by
  simp only [rg, regW, gateW, gR, evR]
  cases lk σ t with
  | none => rfl
  | some v => cases v <;> first | rfl | (cases aevs σ xs <;> rfl)
theorem rg_again {o : AOper} : rg P N r ks Q (.again o :: its) σ h = (againW σ h o ∧ rg P N r ks Q its σ h) := (rfl)
theorem evR_call {f : FuncId} : evR P N r ks Q (.call f) (some vs) d its σ h = callR P N r ks Q f vs d its σ h := (rfl)
theorem evR_callv {f : Value} : evR P N r ks Q .callv (some (f :: vs)) d its σ h = callvR P N r ks Q f vs d its σ h := (rfl)
theorem evR_inv {t : TypeId} {nm : String} : evR P N r ks Q (.inv nm) (some (.iface t v :: vs)) d its σ h = invR P N r ks Q t v nm vs d its σ h := (rfl)
theorem callvR_func {g : FuncId} {x y : List Value} : callvR P N r ks Q (.func (.func g) (List.toArray x) (List.toArray y)) vs d its σ h = callR P N r ks Q g (x ++ vs ++ y) d its σ h := (rfl)
def Opc.sp : Opc → Bool
  | .call _ | .callv | .inv _ | .next => true
  | _ => false
theorem evR_next {ad : Addr} : evR P N r ks Q .next (some [.pointer (some ad)]) d its σ h = NextW ad h fun v h' => rg P N r ks Q its (putσ σ d v) h' := (rfl)
theorem evR_sem (hc : opc.sp = false) : evR P N r ks Q opc (some vs) d its σ h = stR P N r ks Q (semE h.length opc vs h) d its σ := by
  cases opc <;> first | rfl | simp [Opc.sp] at hc
theorem stR_none : stR P N r ks Q (some (v, none, h)) d its σ = rg P N r ks Q its (putσ σ d v) h := by simp [stR]
theorem stR_some {k : Blk} : stR P N r ks Q (some (v, some k, h)) d its σ = rg P N r ks Q its (putσ σ d v) (h ++ [k]) := by simp [stR]
theorem gR_tt : gR P N r ks Q (some (.bool true)) true opc xs d its σ h = evR P N r ks Q opc (aevs σ xs) d its σ h := (rfl)
theorem gR_ff : gR P N r ks Q (some (.bool false)) false opc xs d its σ h = evR P N r ks Q opc (aevs σ xs) d its σ h := (rfl)
theorem gR_tf : gR P N r ks Q (some (.bool true)) false opc xs d its σ h = rg P N r ks Q its (putσ σ d undef) h := (rfl)
theorem gR_ft : gR P N r ks Q (some (.bool false)) true opc xs d its σ h = rg P N r ks Q its (putσ σ d undef) h := (rfl)
theorem gR_un {w : Bool} : gR P N r ks Q (some undef) w opc xs d its σ h = rg P N r ks Q its (putσ σ d undef) h := (rfl)
theorem gR_split {t w : Bool} (h1 : t = w → gR P N r ks Q (some (.bool w)) w opc xs d its σ h) (h2 : t = !w → gR P N r ks Q (some (.bool !w)) w opc xs d its σ h) : gR P N r ks Q (some (.bool t)) w opc xs d its σ h := by
  cases t <;> cases w <;> first | exact h1 rfl | exact h2 rfl
theorem cR_t : cR P N r ks Q (some (.bool true)) a b σ h = run P N r ks Q a σ h := (rfl)
theorem cR_f : cR P N r ks Q (some (.bool false)) a b σ h = run P N r ks Q b σ h := (rfl)
theorem cR_split {t : Bool} (h1 : t = true → run P N r ks Q a σ h) (h2 : t = false → run P N r ks Q b σ h) : cR P N r ks Q (some (.bool t)) a b σ h := by
  cases t
  · exact h2 rfl
  · exact h1 rfl
theorem callR_of {f : FuncId} {K : Value → AH → Prop} (hc : ACalls P f vs h K) (hk : ∀ v h', K v h' → rg P N r ks Q its (putσ σ d v) h') : callR P N r ks Q f vs d its σ h := hc.mono hk
theorem retR_some {K : Value → AH → Prop} : retR (some vs) K h = K (resVal vs) h := (rfl)
theorem FunQ_nrm {rs : List RA} {K : Value → AH → Prop} : FunQ rs K .nrm σ h = retR (resAll σ h rs) K h := by
  simp only [FunQ, retR]; cases resAll σ h rs <;> rfl
theorem FunQ_ret {rs : List RA} {K : Value → AH → Prop} : FunQ rs K .ret σ h = retR (resAll σ h rs) K h := by
  simp only [FunQ, retR]; cases resAll σ h rs <;> rfl
theorem aevs_nil : aevs σ [] = some [] := (rfl)
def consO (v : Option Value) (vs : Option (List Value)) : Option (List Value) := match v, vs with
  | some v, some vs => some (v :: vs)
  | _, _ => none
theorem aevs_cons {x : Operand} : aevs σ (x :: xs) = consO (aev σ x) (aevs σ xs) := by
  simp only [aevs, consO]; cases aev σ x <;> cases aevs σ xs <;> rfl
theorem consO_some : consO (some v) (some vs) = some (v :: vs) := (rfl)
theorem aev_tmp {t : Nat} : aev σ (.tmp t) = lk σ t := (rfl)
theorem aev_const : aev σ (.const v) = some v := (rfl)
theorem aev_func {f : FuncId} : aev σ (.func f) = some (.func (.func f) #[] #[]) := (rfl)
theorem lk_cons {k t : Nat} : lk ((k, v) :: σ) t = if k = t then some v else lk σ t := (rfl)
theorem putσ_some {d : Nat} : putσ σ (some d) v = (d, v) :: σ := (rfl)
theorem putσ_none : putσ σ none v = σ := (rfl)
theorem resAll_nil : resAll σ h [] = some [] := (rfl)
theorem resAll_cons {x : RA} {rs : List RA} : resAll σ h (x :: rs) = consO (resOne σ h x) (resAll σ h rs) := by
  simp only [resAll, consO]; cases resOne σ h x <;> cases resAll σ h rs <;> rfl
theorem resOne_tmp {t : Nat} : resOne σ h (.tmp t) = lk σ t := (rfl)
theorem resVal_one : resVal [v] = v := (rfl)
theorem argT_nil {i : Nat} : argT i [] = [] := (rfl)
theorem argT_cons {i : Nat} : argT i (v :: vs) = (i, v) :: argT (i + 1) vs := (rfl)
end

end Go.Pw
