/- The abstract logic in which the functions of the program are walked, part 2. No condition. -/
import Derived.Test.YtkpafafiaicfpaaPwA
set_option linter.unusedSimpArgs false
set_option linter.unusedVariables false
set_option linter.unusedSectionVars false
/-! The abstract logic, part B: abstract code, abstract heaps, the relation with the model's worlds. -/
namespace Go.Pw
open Go.RowKit (Below)

/-- How '==' and '!=' compare: not at all, bools, structs of numbers (true) and bools (false), a slice with nil. -/
inductive EqK where
  | no | bools | struct (ks : List Bool) | nilSlice
  deriving Inhabited

/-- What an operation does, its types resolved. Its operands stand beside it. -/
inductive Opc where
  | mv | pick
  | alloc (zs : List Value)
  | box
  | build (zs : List Value) (pl : List (Nat × Nat))
  | bslice (len esz : Nat) (zs : List Value) (pl : List (Nat × Nat))
  | load1
  | loadN (n : Nat)
  | store (n : Nat)
  | nilCheck
  | bin (op : BinOp) (eq : EqK)
  | un (op : UnOp)
  | conv (k : IntKind)
  | mkI (t : TypeId)
  | mkF (fn : Fn) (n : Nat)
  | mkMap
  | mkSlice (bytes : Nat) (z : List Value)
  | sl (esz : Nat) (lo hi mx : Bool)
  | slA (n esz : Nat) (lo hi mx : Bool)
  | fld (off : Nat)
  | fldV (off : Nat) (n : Option Nat)
  | ixA (n esz : Nat)
  | ixS (esz : Nat)
  | ix (n esz : Nat) (agg : Bool)
  | ext (i : Nat)
  | len
  | lenA (n : Nat)
  | app (bytes : Nat) (z : List Value)
  | copy (esz : Nat)
  | mm (mx : Bool)
  | lookup (z : Value) (ok int : Bool)
  | mapUpd (int : Bool)
  | call (f : FuncId)
  | callv
  | inv (name : String)
  | rangeM | next | entry
  | other
  deriving Inhabited

structure AOper where
  dst : Option Nat
  opc : Opc
  xs : List Operand
  g : Option (Nat × Bool)
  deriving Inhabited

/-- One step of a region: an operation is met, or an earlier one is looked at again. -/
inductive It where
  | ev (o : AOper)
  | again (o : AOper)
  deriving Inhabited

inductive AC where
  | skip
  | reg (its : List It)
  | seq (a b : AC)
  | cond (c : Operand) (a b : AC)
  | block (id : Nat) (a : AC)
  | loop (a : AC)
  | rangeF (f : Operand) (ps : List Nat) (asg body : AC)
  | exit (id : Nat)
  | scope (a : AC)
  | ret
  deriving Inhabited

/-- Temporaries that are known. -/
abbrev Tm := List (Nat × Value)
def lk : Tm → Nat → Option Value
  | [], _ => none
  | (k, v) :: r, t => if k = t then some v else lk r t
def stt (σ : Tm) (t : Nat) (v : Value) : Tm := (t, v) :: σ
theorem lk_stt (σ : Tm) (t u : Nat) (v : Value) : lk (stt σ t v) u = if t = u then some v else lk σ u := rfl

inductive PEx where
  | ret | exit (id : Nat)
  deriving DecidableEq, Inhabited
def PEx.code : PEx → Code
  | .ret => .ret
  | .exit id => .exit id
inductive LSt where
  | ready | busy | done (e : PEx) | gone
  deriving DecidableEq, Inhabited

def LSt.says : LSt → Loop → Prop
  | .ready, r => r.state = .ready ∧ r.pending = none
  | .busy, r => r.state = .busy ∧ r.pending = none
  | .done e, r => r.state = .done ∧ r.pending = some e.code
  | .gone, _ => True

/-- An abstract block. -/
inductive Blk where
  | dead
  | cells (rw : Bool) (cs : List Value)
  | row (s : Nat) (cs : List Value)
  | map (es : List (Value × Value))
  | iter (m : Option Nat) (n : Nat) (seen : List Nat)
  | loop (s : LSt) (N : Nat) (σ : Tm) (ps : List Nat) (asg body : AC)
  deriving Inhabited

abbrev AH := List Blk

def Blk.live : Blk → Bool
  | .dead => false
  | _ => true
def Blk.rw : Blk → Bool
  | .dead => false
  | .cells rw _ => rw
  | _ => true

/-- Temporaries that are known stand for those of the frame. -/
def TR (ι : Inj) (σ : Tm) (A : Array Value) : Prop := ∀ t v, lk σ t = some v → ∃ v', A[t]? = some v' ∧ VR ι v v'

section
variable (FC : Nat → Code → Option AC)

/-- What the object behind an abstract block is. 'B': the blocks below it were there at the start. -/
def BlkR (ι : Inj) (B : Nat) (y : Nat × Nat × Option Nat) : Blk → Option Obj → Prop
  | .dead, _ => True
  | .cells rw cs, x => y.2.2 = none ∧ ∃ C e fz, x = some (.cells C e fz) ∧ (∀ (i : Nat) (v : Value), cs[i]? = some v → ∃ v', C[y.2.1 + i]? = some v' ∧ VR ι v v') ∧ (rw = true → y.2.1 = 0 ∧ B ≤ y.1 ∧ fz = (0, 0))
  | .row s cs, x => y.2.1 = 0 ∧ B ≤ y.1 ∧ ∃ C e K, y.2.2 = some K ∧ x = some (.cells C e (0, 0)) ∧ C.size = K * s ∧ (∀ (i : Nat) (v : Value), cs[i]? = some v → ∃ v', C[i]? = some v' ∧ VR ι v v')
  | .map es, x => y.2 = (0, none) ∧ B ≤ y.1 ∧ ∃ E : Array MapEntry, x = some (.map E E.size) ∧ E.size = es.length ∧
      ∀ (i : Nat) (e : MapEntry) (k v : Value), E[i]? = some e → es[i]? = some (k, v) → e.born = i ∧ VR ι k e.key ∧ VR ι v e.val
  | .iter m n seen, x => y.2 = (0, none) ∧ B ≤ y.1 ∧ ∃ m', (∀ r, m = some r → ∃ r', ι r = some (r', 0, none) ∧ m' = some r') ∧ (m = none → m' = none) ∧ x = some (.mapIter m' n seen.toArray n)
  | .loop s N σ ps asg body, x => y.2 = (0, none) ∧ B ≤ y.1 ∧ ∃ r : Loop, x = some (.loop r) ∧ r.tmps.size = N ∧ TR ι σ r.tmps ∧ r.params.toList = ps ∧ FC N r.assign = some asg ∧ FC N r.body = some body ∧
      s.says r

/-- The world at the start, and the marks of the loops that are under way. -/
structure Fr extends World where
  marks : List Nat

structure HR (w0 : Fr) (ι : Inj) (h : AH) (w : World) : Prop where
  below : Below w0.heap.size w0.toWorld w
  dom : ∀ b y, ι b = some y → b < h.length ∧ y.1 < w.heap.size
  blk : ∀ b k y, h[b]? = some k → ι b = some y → BlkR FC ι w0.heap.size y k w.heap[y.1]?
  inj : ∀ b c k l y z, ι b = some y → ι c = some z → y.1 = z.1 → h[b]? = some k → h[c]? = some l → b ≠ c → k.rw = true → l.live = false
  mkd : ∀ k ∈ w0.marks, w.heap[k]? = some (.deferred (some [])) ∧ ∀ b y, ι b = some y → y.1 ≠ k
end

theorem TR.mono {ι ι' : Inj} (hl : Le ι ι') {σ : Tm} {A : Array Value} (h : TR ι σ A) : TR ι' σ A := fun t v e =>
  let ⟨v', h1, h2⟩ := h t v e; ⟨v', h1, h2.mono hl⟩

section
variable {FC : Nat → Code → Option AC}

theorem BlkR.mono {ι ι' : Inj} (hl : Le ι ι') {B : Nat} {y : Nat × Nat × Option Nat} {k : Blk} {x : Option Obj} (h : BlkR FC ι B y k x) : BlkR FC ι' B y k x := by
  cases k with
  | dead => trivial
  | cells rw cs =>
    obtain ⟨h0, C, e, fz, h1, h2, h3⟩ := h
    exact ⟨h0, C, e, fz, h1, fun i v hv => let ⟨v', a, b⟩ := h2 i v hv; ⟨v', a, b.mono hl⟩, h3⟩
  | row s cs =>
    obtain ⟨h0, h1, C, e, K, h2, h3, h4, h5⟩ := h
    exact ⟨h0, h1, C, e, K, h2, h3, h4, fun i v hv => let ⟨v', a, b⟩ := h5 i v hv; ⟨v', a, b.mono hl⟩⟩
  | map es =>
    obtain ⟨h0, h1, E, h2, h3, h4⟩ := h
    exact ⟨h0, h1, E, h2, h3, fun i e k v a b => let ⟨c, d, f⟩ := h4 i e k v a b; ⟨c, d.mono hl, f.mono hl⟩⟩
  | iter m n seen =>
    obtain ⟨h0, h1, m', h2, h3, h4⟩ := h
    exact ⟨h0, h1, m', fun r hr => let ⟨r', a, b⟩ := h2 r hr; ⟨r', hl _ _ a, b⟩, h3, h4⟩
  | loop s N σ ps asg body =>
    obtain ⟨h0, h1, r, h2, h3, h4, h5, h6, h7, h9⟩ := h
    exact ⟨h0, h1, r, h2, h3, h4.mono hl, h5, h6, h7, h9⟩

variable {w0 : Fr} {w w' : World} {ι ι' : Inj} {h h' : AH}

theorem HR.Dom (hr : HR FC w0 ι h w) : Dom h.length ι := fun b x e => (hr.dom b x e).1

def Inj.upd (ι : Inj) (b : Nat) (x : Nat × Nat × Option Nat) : Inj := fun c => if c = b then some x else ι c
theorem Inj.upd_same (ι : Inj) (b : Nat) (x : Nat × Nat × Option Nat) : ι.upd b x b = some x := by simp [Inj.upd]
theorem Inj.upd_ne (ι : Inj) {b c : Nat} (x : Nat × Nat × Option Nat) (hne : c ≠ b) : ι.upd b x c = ι c := by simp [Inj.upd, hne]
theorem Inj.upd_le {ι : Inj} {b : Nat} (x : Nat × Nat × Option Nat) (hb : ι b = none) : Le ι (ι.upd b x) := fun c y e => by
  by_cases hc : c = b
  · subst hc; rw [hb] at e; cases e
  · rw [Inj.upd_ne ι x hc]; exact e

/-- A block that ι does not know may be laid ahead. -/
theorem HR.push (hr : HR FC w0 ι h w) (l : List Blk) : HR FC w0 ι (h ++ l) w where
  below := hr.below
  dom b y e := ⟨by have := (hr.dom b y e).1; simp; omega, (hr.dom b y e).2⟩
  blk b k y e i := hr.blk b k y (by rwa [List.getElem?_append_left (hr.dom b y i).1] at e) i
  inj b c k l' y z hb hc hyz ek el hne hk := hr.inj b c k l' y z hb hc hyz (by rwa [List.getElem?_append_left (hr.dom b y hb).1] at ek) (by rwa [List.getElem?_append_left (hr.dom c z hc).1] at el) hne hk
  mkd := hr.mkd

/-- A block of the abstract heap is laid in the world. -/
theorem HR.lay (hr : HR FC w0 ι h w) {b : Nat} {k : Blk} (hb : ι b = none) (hk : h[b]? = some k) {x : Obj} {K : Option Nat}
    (hB : BlkR FC ι w0.heap.size (w.heap.size, 0, K) k (some x)) : HR FC w0 (ι.upd b (w.heap.size, 0, K)) h { w with heap := w.heap.push x } where
  below := hr.below.trans (Below.alloc (Below.refl _ w) hr.below.size x)
  dom c y e := by
    by_cases hc : c = b
    · subst hc
      rw [Inj.upd_same] at e
      cases e
      exact ⟨(List.getElem?_eq_some_iff.1 hk).1, by simp⟩
    · rw [Inj.upd_ne _ _ hc] at e
      have := hr.dom c y e
      exact ⟨this.1, by simp; omega⟩
  blk c l y e i := by
    by_cases hc : c = b
    · subst hc
      rw [Inj.upd_same] at i
      cases i
      rw [hk] at e; cases e
      have : ({ w with heap := w.heap.push x } : World).heap[w.heap.size]? = some x := by simp
      rw [this]
      exact hB.mono (Inj.upd_le _ hb)
    · rw [Inj.upd_ne _ _ hc] at i
      have hlt := (hr.dom c y i).2
      have : ({ w with heap := w.heap.push x } : World).heap[y.1]? = w.heap[y.1]? := by
        show (w.heap.push x)[y.1]? = _
        rw [Array.getElem?_push, if_neg (by omega)]
      rw [this]
      exact (hr.blk c l y e i).mono (Inj.upd_le _ hb)
  inj c d k' l y z ic id hyz ek el hne hrw := by
    by_cases hc : c = b
    · subst hc
      rw [Inj.upd_same] at ic
      cases ic
      rw [Inj.upd_ne _ _ (Ne.symm hne)] at id
      have := (hr.dom d _ id).2
      simp only at hyz
      omega
    · rw [Inj.upd_ne _ _ hc] at ic
      by_cases hd : d = b
      · subst hd
        rw [Inj.upd_same] at id
        cases id
        have := (hr.dom c _ ic).2
        simp only at hyz
        omega
      · rw [Inj.upd_ne _ _ hd] at id
        exact hr.inj c d k' l y z ic id hyz ek el hne hrw
  mkd k hk := by
    obtain ⟨h1, h2⟩ := hr.mkd k hk
    have hlt : k < w.heap.size := (Array.getElem?_eq_some_iff.1 h1).1
    refine ⟨?_, fun c y e => ?_⟩
    · show (w.heap.push x)[k]? = _
      rw [Array.getElem?_push, if_neg (by omega)]; exact h1
    · by_cases hc : c = b
      · subst hc
        rw [Inj.upd_same] at e
        cases e
        simp only; omega
      · rw [Inj.upd_ne _ _ hc] at e
        exact h2 c y e

/-- Only what the heap says less of. -/
theorem HR.weaken (hr : HR FC w0 ι h w) (hlen : ∀ b x, ι b = some x → b < h'.length)
    (hsub : ∀ (b : Nat) (k : Blk) (x : Nat × Nat × Option Nat), h'[b]? = some k → k.live = true → ι b = some x → h[b]? = some k) : HR FC w0 ι h' w where
  below := hr.below
  dom b y e := ⟨hlen b _ e, (hr.dom b y e).2⟩
  blk b k y e i := by
    by_cases hl : k.live = true
    · exact hr.blk b k y (hsub b k _ e hl i) i
    · cases k <;> simp [Blk.live] at hl
      trivial
  inj b c k l y z ib ic hyz ek el hne hrw := by
    by_cases hl : l.live = true
    · have hk : k.live = true := by cases k <;> simp_all [Blk.live, Blk.rw]
      exact absurd (hr.inj b c k l y z ib ic hyz (hsub b k _ ek hk ib) (hsub c l _ el hl ic) hne hrw) (by simp [hl])
    · simpa using hl
  mkd := hr.mkd

/-- A world in which the heap alone has turned at one block, that of an abstract block that is written. -/
theorem HR.set (hr : HR FC w0 ι h w) {b : Nat} {y : Nat × Nat × Option Nat} {k k0 : Blk} {x : Obj} (hk0 : h[b]? = some k0) (hrw : k0.rw = true) (hrw' : k.rw = true) (hi : ι b = some y) (hB0 : w0.heap.size ≤ y.1)
    (hw : w'.heap = w.heap.setIfInBounds y.1 x) (hos : w'.os = w.os) (ht : w'.tape = w.tape) (ho : w'.output = w.output)
    (hB : BlkR FC ι w0.heap.size y k (some x)) : HR FC w0 ι (h.set b k) w' where
  below := hr.below.trans ⟨hos, ht, ho, by rw [hw]; simp, fun j hj => by rw [hw, Array.getElem?_setIfInBounds_ne (by omega)]⟩
  dom c z e := by have := hr.dom c z e; rw [hw]; simpa using this
  blk c l z e i := by
    by_cases hc : c = b
    · subst hc
      rw [hi] at i
      cases i
      have hlt : c < h.length := (List.getElem?_eq_some_iff.1 hk0).1
      rw [List.getElem?_set_self hlt] at e
      cases e
      have : w'.heap[y.1]? = some x := by
        rw [hw, Array.getElem?_setIfInBounds_self_of_lt (hr.dom c y hi).2]
      rw [this]
      exact hB
    · rw [List.getElem?_set_ne (Ne.symm hc)] at e
      by_cases hl : l.live = true
      · have hne : z.1 ≠ y.1 := fun heq => by
          have := hr.inj b c k0 l y z hi i heq.symm hk0 e (Ne.symm hc) hrw
          simp [hl] at this
        have : w'.heap[z.1]? = w.heap[z.1]? := by rw [hw, Array.getElem?_setIfInBounds_ne (Ne.symm hne)]
        rw [this]
        exact hr.blk c l z e i
      · cases l <;> simp [Blk.live] at hl
        trivial
  inj c d k' l y' z ic id hyz ek el hne hr' := by
    by_cases hc : c = b
    · subst hc
      rw [List.getElem?_set_ne hne] at el
      exact hr.inj c d k0 l y' z ic id hyz hk0 el hne hrw
    · rw [List.getElem?_set_ne (Ne.symm hc)] at ek
      by_cases hd : d = b
      · subst hd
        have h1 := hr.inj c d k' k0 y' z ic id hyz ek hk0 hne hr'
        cases k0 <;> simp_all [Blk.live, Blk.rw]
      · rw [List.getElem?_set_ne (Ne.symm hd)] at el
        exact hr.inj c d k' l y' z ic id hyz ek el hne hr'
  mkd q hq := by
    obtain ⟨h1, h2⟩ := hr.mkd q hq
    refine ⟨?_, h2⟩
    rw [hw, Array.getElem?_setIfInBounds_ne (h2 b y hi)]
    exact h1

end
end Go.Pw
