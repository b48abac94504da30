/- The abstract logic in which the functions of the program are walked, part 1. No condition. -/
import Derived.CallsIn
import Derived.OrdersIn
import Derived.RangeFuncIn
import Derived.Below
import Derived.KernelRfl
set_option linter.unusedSimpArgs false
set_option linter.unusedVariables false
set_option linter.unusedSectionVars false
/-! The abstract logic, part A: values, code, heaps, and how they stand for the model's own. -/
namespace Go.Pw
open Go.RowKit (Below)

/-- Which block of the model's heap, and from where on, an abstract block stands for; of a row that can grow: for how many elements there is room. -/
abbrev Inj := Nat → Option (Nat × Nat × Option Nat)

def AdR (ι : Inj) (a a' : Addr) : Prop := a.spot = none ∧ a'.spot = none ∧ ∃ o K, ι a.block = some (a'.block, o, K) ∧ a'.off = o + a.off

def FnR (ι : Inj) : Fn → Fn → Prop
  | .yield l, f' => ∃ l', ι l = some (l', 0, none) ∧ f' = .yield l'
  | f, f' => f' = f

inductive VR (ι : Inj) : Value → Value → Prop
  | bool (b : Bool) : VR ι (.bool b) (.bool b)
  | int (k : IntKind) (n : Int) : VR ι (.int k n) (.int k n)
  | str (s : ByteArray) : VR ι (.string s) (.string s)
  | pnil : VR ι (.pointer none) (.pointer none)
  | ptr {a a' : Addr} (h : AdR ι a a') : VR ι (.pointer (some a)) (.pointer (some a'))
  | snil (l c : Nat) : VR ι (.slice none l c) (.slice none l c)
  | slice {a a' : Addr} {l c c' : Nat} (h1 : c ≤ c') (h2 : c = 0 → c' = 0) (h3 : 0 < l ∨ 0 < c → AdR ι a a') (h4 : 0 < c → ∀ b' o K, ι a.block = some (b', o, some K) → a.off = 0 → c' ≤ K) : VR ι (.slice (some a) l c) (.slice (some a') l c')
  | mnil : VR ι (.map none) (.map none)
  | map {r r' : Nat} (h : ι r = some (r', 0, none)) : VR ι (.map (some r)) (.map (some r'))
  | func {f f' : Fn} {x x' y y' : Array Value} (h : FnR ι f f') (hx : x.size = x'.size) (hX : ∀ (i : Nat) (v v' : Value), x[i]? = some v → x'[i]? = some v' → VR ι v v')
      (hy : y.size = y'.size) (hY : ∀ (i : Nat) (v v' : Value), y[i]? = some v → y'[i]? = some v' → VR ι v v') : VR ι (.func f x y) (.func f' x' y')
  | nilFunc : VR ι .nilFunc .nilFunc
  | nilIface : VR ι .nilIface .nilIface
  | iface (t : TypeId) {v v' : Value} (h : VR ι v v') : VR ι (.iface t v) (.iface t v')
  | agg {x x' : Array Value} (hx : x.size = x'.size) (hX : ∀ (i : Nat) (v v' : Value), x[i]? = some v → x'[i]? = some v' → VR ι v v') : VR ι (.agg x) (.agg x')
  | tuple {x x' : Array Value} (hx : x.size = x'.size) (hX : ∀ (i : Nat) (v v' : Value), x[i]? = some v → x'[i]? = some v' → VR ι v v') : VR ι (.tuple x) (.tuple x')

/-- Rows of values that stand for one another. -/
def VA (ι : Inj) (x x' : Array Value) : Prop := x.size = x'.size ∧ ∀ (i : Nat) (v v' : Value), x[i]? = some v → x'[i]? = some v' → VR ι v v'

/-- ι' says what ι says of all numbers below n. -/
def Ext (n : Nat) (ι ι' : Inj) : Prop := ∀ b, b < n → ι' b = ι b
theorem Ext.refl (n : Nat) (ι : Inj) : Ext n ι ι := fun _ _ => rfl
theorem Ext.trans {n m : Nat} {a b c : Inj} (h : Ext n a b) (h' : Ext m b c) (hm : n ≤ m) : Ext n a c := fun x hx => (h' x (Nat.lt_of_lt_of_le hx hm)).trans (h x hx)
theorem Ext.mono {n m : Nat} {a b : Inj} (h : Ext m a b) (hm : n ≤ m) : Ext n a b := fun x hx => h x (Nat.lt_of_lt_of_le hx hm)

/-- What ι says lies below n. -/
def Dom (n : Nat) (ι : Inj) : Prop := ∀ b x, ι b = some x → b < n

def Le (ι ι' : Inj) : Prop := ∀ b x, ι b = some x → ι' b = some x
theorem Le.refl (ι : Inj) : Le ι ι := fun _ _ h => h
theorem Le.trans {a b c : Inj} (h : Le a b) (h' : Le b c) : Le a c := fun x y e => h' x y (h x y e)
theorem Ext.le {n : Nat} {ι ι' : Inj} (h : Ext n ι ι') (hd : Dom n ι) : Le ι ι' := fun b x e => (h b (hd b x e)).trans e

theorem AdR.mono {ι ι' : Inj} (hl : Le ι ι') {a a' : Addr} (h : AdR ι a a') : AdR ι' a a' := by
  obtain ⟨h1, h2, o, K, h3, h4⟩ := h
  exact ⟨h1, h2, o, K, hl _ _ h3, h4⟩

theorem FnR.mono {ι ι' : Inj} (hl : Le ι ι') {f f' : Fn} (h : FnR ι f f') : FnR ι' f f' := by
  cases f <;> simp only [FnR] at h ⊢ <;> try exact h
  obtain ⟨l', h1, h2⟩ := h
  exact ⟨l', hl _ _ h1, h2⟩

theorem VR.mono {ι ι' : Inj} (hl : Le ι ι') {v v' : Value} (h : VR ι v v') : VR ι' v v' := by
  induction h with
  | bool b => exact .bool b
  | int k n => exact .int k n
  | str s => exact .str s
  | pnil => exact .pnil
  | ptr h => exact .ptr (h.mono hl)
  | snil l c => exact .snil l c
  | slice h1 h2 h3 h4 =>
    refine .slice h1 h2 (fun h => (h3 h).mono hl) fun hc b' o K e hz => ?_
    obtain ⟨_, _, o', K', e', _⟩ := h3 (.inr hc)
    rw [hl _ _ e'] at e
    cases e
    exact h4 hc _ _ _ e' hz
  | mnil => exact .mnil
  | map h => exact .map (hl _ _ h)
  | func h hx _ hy _ ihX ihY => exact .func (h.mono hl) hx ihX hy ihY
  | nilFunc => exact .nilFunc
  | nilIface => exact .nilIface
  | iface t _ ih => exact .iface t ih
  | agg hx _ ih => exact .agg hx ih
  | tuple hx _ ih => exact .tuple hx ih

theorem VA.mono {ι ι' : Inj} (hl : Le ι ι') {x x' : Array Value} (h : VA ι x x') : VA ι' x x' := ⟨h.1, fun i v v' e e' => (h.2 i v v' e e').mono hl⟩

/-- What a value that ι knows stands for under a greater ι', it stands for under ι. -/
theorem VR.back {ι ι' : Inj} {n : Nat} (hd : Dom n ι) (he : Ext n ι ι') {v u : Value} (h : VR ι v u) : ∀ {v' : Value}, VR ι' v v' → VR ι v v' := by
  have ad : ∀ {a b a' : Addr}, AdR ι a b → AdR ι' a a' → AdR ι a a' := fun {a b a'} h h' => by
    obtain ⟨_, _, o, K, h1, _⟩ := h
    obtain ⟨k1, k2, o', K', k3, k4⟩ := h'
    exact ⟨k1, k2, o', K', (he _ (hd _ _ h1)) ▸ k3, k4⟩
  have fn : ∀ {f g f' : Fn}, FnR ι f g → FnR ι' f f' → FnR ι f f' := fun {f g f'} h h' => by
    cases f <;> simp only [FnR] at h h' ⊢ <;> try exact h'
    obtain ⟨l, h1, _⟩ := h
    obtain ⟨l', k1, k2⟩ := h'
    exact ⟨l', (he _ (hd _ _ h1)) ▸ k1, k2⟩
  have row : ∀ {x u x' : Array Value}, x.size = u.size → (∀ (i : Nat) (v w : Value), x[i]? = some v → u[i]? = some w → ∀ {v' : Value}, VR ι' v v' → VR ι v v') →
      (∀ (i : Nat) (v v' : Value), x[i]? = some v → x'[i]? = some v' → VR ι' v v') → ∀ (i : Nat) (v v' : Value), x[i]? = some v → x'[i]? = some v' → VR ι v v' :=
    fun {x u x'} hs ih h i v v' e e' => by
      have hi : i < u.size := by rw [← hs]; exact (Array.getElem?_eq_some_iff.1 e).1
      exact ih i v u[i] e (Array.getElem?_eq_getElem hi) (h i v v' e e')
  induction h with
  | bool b => intro v' h'; cases h'; exact .bool b
  | int k n => intro v' h'; cases h'; exact .int k n
  | str s => intro v' h'; cases h'; exact .str s
  | pnil => intro v' h'; cases h'; exact .pnil
  | ptr h => intro v' h'; cases h' with | ptr k => exact .ptr (ad h k)
  | snil l c => intro v' h'; cases h'; exact .snil l c
  | slice h1 h2 h3 h4 =>
    intro v' h'
    cases h' with
    | slice k1 k2 k3 k4 =>
      refine .slice k1 k2 (fun h => ad (h3 h) (k3 h)) fun hc b' o K e hz => k4 hc b' o K ?_ hz
      rw [he _ (hd _ _ e)]
      exact e
  | mnil => intro v' h'; cases h'; exact .mnil
  | map h => intro v' h'; cases h' with | map k => exact .map ((he _ (hd _ _ h)) ▸ k)
  | func h hx _ hy _ ihX ihY => intro v' h'; cases h' with | func k kx kX ky kY => exact .func (fn h k) kx (row hx ihX kX) ky (row hy ihY kY)
  | nilFunc => intro v' h'; cases h'; exact .nilFunc
  | nilIface => intro v' h'; cases h'; exact .nilIface
  | iface t _ ih => intro v' h'; cases h' with | iface _ k => exact .iface t (ih k)
  | agg hx _ ih => intro v' h'; cases h' with | agg kx kX => exact .agg kx (row hx ih kX)
  | tuple hx _ ih => intro v' h'; cases h' with | tuple kx kX => exact .tuple kx (row hx ih kX)

/-- Values without an address. (fuel: how deep) -/
def plainV : Nat → Value → Bool
  | _, .bool _ | _, .int _ _ | _, .string _ | _, .pointer none | _, .slice none _ _ | _, .map none | _, .nilFunc | _, .nilIface => true
  | n + 1, .iface _ v => plainV n v
  | n + 1, .agg x | n + 1, .tuple x => x.toList.all (plainV n)
  | n + 1, .func (.func _) x y => x.toList.all (plainV n) && y.toList.all (plainV n)
  | _, _ => false

theorem VR.plain {ι : Inj} : ∀ (n : Nat) (v : Value), plainV n v = true → VR ι v v := by
  have row : ∀ (n : Nat) (x : Array Value), (∀ v, plainV n v = true → VR ι v v) → x.toList.all (plainV n) = true → ∀ (i : Nat) (v v' : Value), x[i]? = some v → x[i]? = some v' → VR ι v v' :=
    fun n x ih h i v v' e e' => by
      obtain rfl : v = v' := Option.some.inj (e.symm.trans e')
      exact ih v (List.all_eq_true.1 h v (by simpa using Array.mem_of_getElem? e))
  intro n
  induction n with
  | zero =>
    intro v h
    cases v with
    | pointer a => cases a <;> first | exact .pnil | simp [plainV] at h
    | slice a l c => cases a <;> first | exact .snil _ _ | simp [plainV] at h
    | map r => cases r <;> first | exact .mnil | simp [plainV] at h
    | bool b => exact .bool b
    | int k n => exact .int k n
    | string s => exact .str s
    | nilFunc => exact .nilFunc
    | nilIface => exact .nilIface
    | _ => simp [plainV] at h
  | succ n ih =>
    intro v h
    cases v with
    | pointer a => cases a <;> first | exact .pnil | simp [plainV] at h
    | slice a l c => cases a <;> first | exact .snil _ _ | simp [plainV] at h
    | map r => cases r <;> first | exact .mnil | simp [plainV] at h
    | bool b => exact .bool b
    | int k n => exact .int k n
    | string s => exact .str s
    | nilFunc => exact .nilFunc
    | nilIface => exact .nilIface
    | iface t v => exact .iface t (ih v (by simpa [plainV] using h))
    | agg x => exact .agg rfl (row n x ih (by simpa only [plainV] using h))
    | tuple x => exact .tuple rfl (row n x ih (by simpa only [plainV] using h))
    | func f x y =>
      cases f <;> simp only [plainV, Bool.false_eq_true] at h
      rw [Bool.and_eq_true] at h
      exact .func rfl rfl (row n x ih h.1) rfl (row n y ih h.2)
    | _ => simp [plainV] at h

end Go.Pw
