/- The abstract logic in which the functions of the program are walked, part 9. No condition. -/
import Derived.Test.YtkpafafiaicfpaaPwH
set_option linter.unusedSimpArgs false
set_option linter.unusedVariables false
set_option linter.unusedSectionVars false
/-! The abstract logic, part I: which operations may come up whenever; code as it is flattened. -/
namespace Go.Pw

/-- 0: of its operands alone; 1: it reads; 2: it lays a block; 3: all else. -/
def Opc.kind : Opc → Nat
  | .mv | .pick | .build .. | .nilCheck | .bin .. | .un _ | .conv _ | .mkI _ | .mkF .. | .sl .. | .fld _ | .fldV .. | .ixA .. | .ixS _ | .ix .. | .ext _ | .len | .lenA _ | .mm _ => 0
  | .load1 | .loadN _ | .lookup .. | .slA .. => 1
  | .alloc _ | .box | .bslice .. | .mkMap | .mkSlice .. => 2
  | _ => 3

/-- The block of which a value tells. -/
def bOf : Value → Nat
  | .pointer (some a) => a.block
  | .slice (some a) _ _ => a.block
  | .map (some r) => r
  | _ => 0

section
variable {b : Nat} {opc : Opc} {vs : List Value} {h h' : AH} {v : Value} {nb : Option Blk}

theorem semE_kind (hk : opc.kind < 3) : semE b opc vs h = sem b opc vs h := by
  cases opc <;> first | rfl | simp [Opc.kind] at hk

theorem sem_pure (hk : opc.kind = 0) (hs : sem b opc vs h = some (v, nb, h')) : nb = none ∧ h' = h ∧ ∀ b2 h2, sem b2 opc vs h2 = some (v, none, h2) := by
  cases opc <;> simp [Opc.kind] at hk <;> clear hk
  case mkF fn n =>
    cases fn <;> simp only [sem, Option.some.injEq, Prod.mk.injEq, reduceCtorEq] at hs ⊢ <;> (obtain ⟨rfl, rfl, rfl⟩ := hs; exact ⟨rfl, rfl, fun _ _ => by simp⟩)
  case build zs pl =>
    simp only [sem, Option.map_eq_some_iff, Prod.mk.injEq] at hs
    obtain ⟨c, e1, rfl, rfl, rfl⟩ := hs
    exact ⟨rfl, rfl, fun _ _ => by simp [sem, e1]⟩
  case sl =>
    unfold sem at hs
    split at hs <;> first | (rename_i e; cases e; done) | (cases hs; done) | (rename_i e; cases e)
    simp only [Option.bind_eq_some_iff] at hs
    obtain ⟨⟨i, j, m⟩, e1, hs⟩ := hs
    split at hs <;> cases hs
    rename_i hc
    exact ⟨rfl, rfl, fun _ _ => by simp only [sem, e1, Option.bind_some]; rw [if_pos hc]⟩
  case fldV =>
    unfold sem at hs
    split at hs <;> first | (rename_i e; cases e; done) | (cases hs; done) | (rename_i e; cases e)
    split at hs
    · simp only [Option.map_eq_some_iff, Prod.mk.injEq] at hs
      obtain ⟨c, e1, rfl, rfl, rfl⟩ := hs
      exact ⟨rfl, rfl, fun _ _ => by simp [sem, e1]⟩
    · split at hs <;> cases hs
      rename_i hc
      exact ⟨rfl, rfl, fun _ _ => by simp [sem, hc]⟩
  case ix =>
    unfold sem at hs
    split at hs <;> first | (rename_i e; cases e; done) | (cases hs; done) | (rename_i e; cases e)
    split at hs
    · rename_i hc
      split at hs
      · rename_i hg
        split at hs <;> cases hs
        rename_i hd
        exact ⟨rfl, rfl, fun _ _ => by simp only [sem]; rw [if_pos hc, if_pos hg, if_pos hd]⟩
      · rename_i hg
        simp only [Option.map_eq_some_iff, Prod.mk.injEq] at hs
        obtain ⟨c, e1, rfl, rfl, rfl⟩ := hs
        exact ⟨rfl, rfl, fun _ _ => by simp only [sem]; rw [if_pos hc, if_neg hg, e1]; rfl⟩
    · cases hs
  all_goals
    unfold sem at hs
    split at hs <;> first | (rename_i e; cases e; done) | (cases hs; done) | (rename_i e; cases e)
  all_goals
    first
    | (simp only [Option.some.injEq, Prod.mk.injEq] at hs; obtain ⟨rfl, rfl, rfl⟩ := hs; exact ⟨rfl, rfl, fun _ _ => rfl⟩)
    | (simp only [Option.map_eq_some_iff, Prod.mk.injEq] at hs; obtain ⟨_, e1, rfl, rfl, rfl⟩ := hs; exact ⟨rfl, rfl, fun _ _ => by simp [sem, e1]⟩)
    | (split at hs <;> first | (cases hs; done) | (simp only [Option.some.injEq, Prod.mk.injEq] at hs; obtain ⟨rfl, rfl, rfl⟩ := hs; rename_i hc; exact ⟨rfl, rfl, fun _ _ => by simp [sem, hc]⟩))

theorem get_push {h k : AH} {b : Nat} {x : Blk} (e : h[b]? = some x) : (h ++ k)[b]? = some x := by
  rw [List.getElem?_append_left (List.getElem?_eq_some_iff.1 e).1]; exact e

theorem rdc_push {h k : AH} {b : Nat} {cs : List Value} (e : rdc h b = some cs) : rdc (h ++ k) b = some cs := by
  unfold rdc at e ⊢
  split at e <;> first | (cases e; done) | skip
  all_goals
    rename_i x
    rw [get_push x]
    exact e

theorem sem_read (hk : opc.kind = 1) (hs : sem b opc vs h = some (v, nb, h')) : nb = none ∧ h' = h ∧ ∀ b2 k, sem b2 opc vs (h ++ k) = some (v, none, h ++ k) := by
  cases opc <;> simp [Opc.kind] at hk <;> clear hk
  all_goals
    unfold sem at hs
    split at hs <;> first | (rename_i e; cases e; done) | (cases hs; done) | (rename_i e; cases e)
  · simp only [Option.map_eq_some_iff, Prod.mk.injEq] at hs
    obtain ⟨c, e1, rfl, rfl, rfl⟩ := hs
    refine ⟨rfl, rfl, fun _ k => ?_⟩
    unfold rd1 at e1
    split at e1
    · rename_i hsp
      simp only [Option.bind_eq_some_iff] at e1
      obtain ⟨cs, e2, e3⟩ := e1
      simp [sem, rd1, hsp, rdc_push e2, e3]
    · cases e1
  · simp only [Option.map_eq_some_iff, Prod.mk.injEq] at hs
    obtain ⟨c, e1, rfl, rfl, rfl⟩ := hs
    refine ⟨rfl, rfl, fun _ k => ?_⟩
    unfold rdN at e1
    split at e1
    · rename_i hsp
      simp only [Option.bind_eq_some_iff] at e1
      obtain ⟨cs, e2, e3⟩ := e1
      simp only [sem, rdN, hsp, if_true, rdc_push e2, Option.bind_some, e3]; rfl
    · cases e1
  · split at hs
    · rename_i e2
      simp only [Option.map_eq_some_iff, Prod.mk.injEq] at hs
      obtain ⟨⟨i, j, m⟩, e1, rfl, rfl, rfl⟩ := hs
      exact ⟨rfl, rfl, fun _ k => by simp only [sem, get_push e2, e1]; rfl⟩
    · cases hs
  · split at hs
    · cases hs
      rename_i hc
      exact ⟨rfl, rfl, fun _ k => by simp [sem, hc]⟩
    · cases hs
  · split at hs
    · rename_i e2
      split at hs
      · rename_i hc
        simp only [Option.map_eq_some_iff, Prod.mk.injEq] at hs
        obtain ⟨c, e1, rfl, rfl, rfl⟩ := hs
        exact ⟨rfl, rfl, fun _ k => by simp [sem, get_push e2, hc, e1]⟩
      · cases hs
    · cases hs

theorem sem_alloc (hk : opc.kind = 2) (hs : sem b opc vs h = some (v, nb, h')) : ∃ k, nb = some k ∧ h' = h ∧ bOf v = b ∧ ∀ h2, sem b opc vs h2 = some (v, some k, h2) := by
  cases opc <;> simp [Opc.kind] at hk <;> clear hk
  case bslice =>
    simp only [sem, Option.map_eq_some_iff, Prod.mk.injEq] at hs
    obtain ⟨c, e1, rfl, rfl, rfl⟩ := hs
    exact ⟨_, rfl, rfl, rfl, fun _ => by simp [sem, e1]⟩
  all_goals
    unfold sem at hs
    split at hs <;> first | (rename_i e; cases e; done) | (cases hs; done) | (rename_i e; cases e)
  · cases hs; exact ⟨_, rfl, rfl, rfl, fun _ => rfl⟩
  · cases hs; exact ⟨_, rfl, rfl, rfl, fun _ => rfl⟩
  · cases hs; exact ⟨_, rfl, rfl, rfl, fun _ => rfl⟩
  · split at hs
    · rename_i hc
      cases hs
      exact ⟨_, rfl, rfl, rfl, fun _ => by simp only [sem]; rw [if_pos hc]⟩
    · cases hs

end

/-! ### Flattening -/

def plainO : Operand → Bool
  | .const v => plainV 6 v
  | .global _ => false
  | _ => true

def dstOk (N : Nat) : Option Nat → Bool
  | none => true
  | some d => decide (d < N)

def guardA (ops : Array Oper) : Option (Nat × Bool) → Option (Option (Nat × Bool))
  | none => some none
  | some (j, w) => ((ops[j]?).bind (·.dst)).map fun t => some (t, w)

def flatOper (P : Program) (N : Nat) (ops : Array Oper) (o : Oper) : Option AOper :=
  (flatOp P o.op).bind fun (opc, xs) => (guardA ops o.guard).bind fun g =>
    if dstOk N o.dst = true ∧ xs.all plainO = true then some ⟨o.dst, opc, xs, g⟩ else none

def allSome {α : Type} : List (Option α) → Option (List α)
  | [] => some []
  | x :: l => x.bind fun y => (allSome l).map (y :: ·)

theorem allSome_get {α β : Type} {f : α → Option β} : ∀ {l : List α} {r : List β}, allSome (l.map f) = some r → ∀ (i : Nat) (x : α), l[i]? = some x → ∃ y, r[i]? = some y ∧ f x = some y
  | [], _, _, i, x, hx => by simp at hx
  | a :: l, r, h, i, x, hx => by
    simp only [List.map_cons, allSome, Option.bind_eq_some_iff, Option.map_eq_some_iff] at h
    obtain ⟨y, h1, r', h2, rfl⟩ := h
    cases i with
    | zero => simp only [List.getElem?_cons_zero, Option.some.injEq] at hx; subst hx; exact ⟨y, by simp, h1⟩
    | succ i => simp only [List.getElem?_cons_succ] at hx ⊢; exact allSome_get h2 i x hx

theorem allSome_length {α β : Type} {f : α → Option β} : ∀ {l : List α} {r : List β}, allSome (l.map f) = some r → r.length = l.length
  | [], _, h => by simp [allSome] at h; subst h; rfl
  | a :: l, r, h => by
    simp only [List.map_cons, allSome, Option.bind_eq_some_iff, Option.map_eq_some_iff] at h
    obtain ⟨y, h1, r', h2, rfl⟩ := h
    simp [allSome_length h2]

/-- The temporaries at which an operation looks. -/
def AOper.reads (a : AOper) : List Nat := (a.xs.filterMap fun | .tmp t => some t | _ => none) ++ (a.g.toList.map (·.1))

def pw {α : Type} (R : α → α → Bool) : List α → Bool
  | [] => true
  | x :: l => l.all (R x) && pw R l

theorem pw_append {α : Type} {R : α → α → Bool} : ∀ {a b : List α}, pw R (a ++ b) = true → pw R a = true ∧ pw R b = true ∧ ∀ x ∈ a, ∀ y ∈ b, R x y = true
  | [], b, h => ⟨rfl, h, fun x hx => by simp at hx⟩
  | x :: a, b, h => by
    simp only [List.cons_append, pw, Bool.and_eq_true, List.all_append] at h
    obtain ⟨⟨h1, h2⟩, h3⟩ := h
    obtain ⟨k1, k2, k3⟩ := pw_append h3
    refine ⟨by simp [pw, h1, k1], k2, fun y hy z hz => ?_⟩
    rcases List.mem_cons.1 hy with rfl | hy
    · exact List.all_eq_true.1 h2 z hz
    · exact k3 y hy z hz

section draws
variable (ops : Array Oper) (fo : List AOper)

/-- What must have come up ahead of it. -/
def onOf (i : Nat) : List Nat := match ops[i]? with
  | some o => (o.after.toList.filter (Region.binds .any)).map (·.on)
  | none => []
def befL : Nat → List Nat → List Nat
  | 0, acc => acc
  | n + 1, acc => befL n (acc ++ [(onOf ops acc.length).foldl (fun s e => s ||| 2 ^ e ||| acc.getD e 0) 0])
variable (bf : List Nat)
def bef (i j : Nat) : Bool := (bf.getD i 0).testBit j
def opAt (i : Nat) : AOper := fo.getD i ⟨none, .other, [], none⟩
def lateB (i : Nat) : Bool := match (opAt fo i).dst with
  | none => false
  | some d => (List.range ops.size).any fun r => (opAt fo r).reads.contains d && (r == i || !bef bf r i)
def freeB (i : Nat) : Bool := decide ((opAt fo i).opc.kind < 3) && (opAt fo i).dst.isSome && !lateB ops fo bf i

/-- Free operations that wait for none of the rest of the chain. -/
def newOf (ch prev : List Nat) : List Nat := (List.range ops.size).filter fun i => freeB ops fo bf i && !prev.contains i && ch.all fun e => !bef bf i e
def againOf (e : Nat) (prev : List Nat) : List Nat := prev.filter fun i => (opAt fo i).opc.kind != 0 && !bef bf e i
/-- In which order the operations are met, and which are looked at again. -/
def planOf : List Nat → List Nat → List (Bool × Nat)
  | [], _ => []
  | e :: ch, prev => (true, e) :: (againOf fo bf e prev).map (false, ·) ++ (newOf ops fo bf ch prev).map (true, ·) ++ planOf ch (prev ++ newOf ops fo bf ch prev)
def evsOf : List Nat → List Nat → List Nat
  | [], _ => []
  | e :: ch, prev => e :: (newOf ops fo bf ch prev) ++ evsOf ch (prev ++ newOf ops fo bf ch prev)

/-- Operations that are met in this order do not disturb one another. -/
def inOrd (j i : Nat) : Bool :=
  (match (opAt fo i).dst with
   | some d => (opAt fo j).dst != some d && (!(opAt fo j).reads.contains d || (!freeB ops fo bf i && bef bf i j))
   | none => true) &&
  (match (opAt fo j).dst with
   | some d => !(opAt fo i).reads.contains d || bef bf i j
   | none => true)

def okBef : Bool := (List.range ops.size).all fun i => (onOf ops i).all (fun e => decide (e < i)) && (List.range ops.size).all fun j => !bef bf i j || (onOf ops i).any fun e => e == j || bef bf e j
def chainOf : List Nat := (List.range ops.size).filter fun i => !freeB ops fo bf i
def okDraw : Bool :=
  okBef ops bf && pw (fun j i => bef bf i j) (chainOf ops fo bf) &&
  pw (inOrd ops fo bf) (newOf ops fo bf (chainOf ops fo bf) [] ++ evsOf ops fo bf (chainOf ops fo bf) (newOf ops fo bf (chainOf ops fo bf) []))
end draws

def itOf (fo : List AOper) : Bool × Nat → It
  | (true, i) => .ev (opAt fo i)
  | (false, i) => .again (opAt fo i)

def flatReg (P : Program) (N : Nat) (ops : Array Oper) (draw : Bool) : Option AC :=
  (allSome (ops.toList.map (flatOper P N ops))).bind fun fo =>
    if draw = false then some (.reg (fo.map .ev)) else
    let bf := befL ops ops.size []
    let ch := chainOf ops fo bf
    let new := newOf ops fo bf ch []
    if okDraw ops fo bf = true then some (.reg ((new.map (true, ·) ++ planOf ops fo bf ch new).map (itOf fo))) else none

def flatC (P : Program) (N : Nat) : Code → Option AC
  | .skip => some .skip
  | .label _ => some .skip
  | .region _ ops draw => flatReg P N ops draw
  | .seq a b => (flatC P N a).bind fun x => (flatC P N b).map (.seq x)
  | .cond c a b => if plainO c = true then (flatC P N a).bind fun x => (flatC P N b).map (.cond c x) else none
  | .block id a => (flatC P N a).map (.block id)
  | .loop a => (flatC P N a).map .loop
  | .rangeFunc f ps asg body => if plainO f = true ∧ ps.all (fun p => decide (p < N)) = true then (flatC P N asg).bind fun x => (flatC P N body).map (.rangeF f ps.toList x) else none
  | .exit id => some (.exit id)
  | .ret => some .ret
  | .scope a => (flatC P N a).map .scope
  | _ => none

end Go.Pw
