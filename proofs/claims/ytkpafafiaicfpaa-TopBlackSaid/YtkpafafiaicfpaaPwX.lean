/- The abstract logic in which the functions of the program are walked, part 24. No condition. -/
import Derived.Test.YtkpafafiaicfpaaPwW
set_option linter.unusedSimpArgs false
set_option linter.unusedVariables false
set_option linter.unusedSectionVars false
/-! The abstract logic, part X: functions are walked where they are called; what has been laid and is no longer wanted is forgotten. -/
namespace Go.Pw
open Go.RowKit (Below)

/-- A function that is flattened. -/
def GoodF (P : Program) (f : FuncId) (N : Nat) (c : AC) (rs : List RA) : Prop :=
  ∃ fn C, P.funcs[f]? = some fn ∧ fn.body = some C ∧ (fn.name == "runtime.NumGoroutine") = false ∧ fn.ntmps = N ∧ flatC P fn.ntmps C = some c ∧ allSome (fn.results.toList.map (flatRes P)) = some rs

section
variable (P : Program) (N : Nat) (r : Option Nat) (ks : List Kf) (Q : Ex → Tm → AH → Prop)

/-- What a called function hands back, and what waits behind the call. -/
def backR (d : Option Nat) (its : List It) (σ : Tm) (vs : Option (List Value)) (h : AH) : Prop := match vs with
  | some vs => rg P N r ks Q its (putσ σ d (resVal vs)) h
  | none => False
def QFn (d : Option Nat) (its : List It) (σ : Tm) (rs : List RA) : Ex → Tm → AH → Prop
  | .ex _, _, _ => False
  | _, σ', h => backR P N r ks Q d its σ (resAll σ' h rs) h
/-- Behind a round of a loop over a function. -/
def rndR (d : Option Nat) (its : List It) (σ : Tm) (l N' : Nat) (σ0 : Tm) (ps : List Nat) (asg body : AC) (b : Bool) (s : LSt) (h : AH) : Prop :=
  h[l]? = some (.loop .busy N' σ0 ps asg body) ∧ rg P N r ks Q its (putσ σ d (.bool b)) (h.set l (.loop s N' σ0 ps asg body))
def QRnd (d : Option Nat) (its : List It) (σ : Tm) (l N' : Nat) (σ0 : Tm) (ps : List Nat) (asg body : AC) : Ex → Tm → AH → Prop
  | .nrm, _, h => rndR P N r ks Q d its σ l N' σ0 ps asg body true .ready h
  | .ret, _, h => rndR P N r ks Q d its σ l N' σ0 ps asg body false (.done .ret) h
  | .ex id, _, h => rndR P N r ks Q d its σ l N' σ0 ps asg body false (.done (.exit id)) h
def QAsg (d : Option Nat) (its : List It) (σ : Tm) (l N' : Nat) (σ0 : Tm) (ps : List Nat) (asg body : AC) : Ex → Tm → AH → Prop
  | .nrm, σ', h => h[l]? = some (.loop .ready N' σ0 ps asg body) ∧ run P N' (some l) [] (QRnd P N r ks Q d its σ l N' σ0 ps asg body) body σ' (h.set l (.loop .busy N' σ0 ps asg body))
  | _, _, _ => False
/-- Behind the function that was ranged over. -/
def outR (σ : Tm) (b : Nat) (k : Option Blk) (h : AH) : Prop := match k with
  | some (.loop .ready _ _ _ _ _) => unw P N r ks Q .nrm σ (h.set b .dead)
  | some (.loop (.done .ret) _ _ _ _ _) => unw P N r ks Q .ret σ (h.set b .dead)
  | some (.loop (.done (.exit id)) _ _ _ _ _) => unw P N r ks Q (.ex id) σ (h.set b .dead)
  | _ => False
def QRng (σ : Tm) (b : Nat) (rs : List RA) : Ex → Tm → AH → Prop
  | .ex _, _, _ => False
  | _, σ', h => (resAll σ' h rs).isSome = true ∧ outR P N r ks Q σ b h[b]? h
end

section
variable {P : Program} {N N' : Nat} {r : Option Nat} {ks : List Kf} {Q : Ex → Tm → AH → Prop} {σ σ' σ0 : Tm} {h : AH} {c : AC} {its : List It} {d : Option Nat} {vs : List Value} {f : FuncId} {rs : List RA} {l b : Nat} {ps : List Nat} {asg body : AC} {i : Nat}

theorem good_sound (hg : GoodF P f N c rs) {args : List Value} {K : Value → AH → Prop} (hl : Nat.ble args.length N = true) (hw : AW P N none c (FunQ rs K) (argT 0 args) h) : ACalls P f args h K := by
  obtain ⟨fn, C, h1, h2, h3, rfl, h5, h6⟩ := hg
  exact fun_sound h1 h2 h3 h5 h6 (Nat.le_of_ble_eq_true hl) hw

theorem QFn_nrm : QFn P N r ks Q d its σ rs .nrm σ' h = backR P N r ks Q d its σ (resAll σ' h rs) h := (rfl)
theorem QFn_ret : QFn P N r ks Q d its σ rs .ret σ' h = backR P N r ks Q d its σ (resAll σ' h rs) h := (rfl)
theorem backR_some : backR P N r ks Q d its σ (some vs) h = rg P N r ks Q its (putσ σ d (resVal vs)) h := (rfl)
theorem QRnd_nrm : QRnd P N r ks Q d its σ l N' σ0 ps asg body .nrm σ' h = rndR P N r ks Q d its σ l N' σ0 ps asg body true .ready h := (rfl)
theorem QRnd_ret : QRnd P N r ks Q d its σ l N' σ0 ps asg body .ret σ' h = rndR P N r ks Q d its σ l N' σ0 ps asg body false (.done .ret) h := (rfl)
theorem QRnd_ex : QRnd P N r ks Q d its σ l N' σ0 ps asg body (.ex i) σ' h = rndR P N r ks Q d its σ l N' σ0 ps asg body false (.done (.exit i)) h := (rfl)
theorem QAsg_nrm : QAsg P N r ks Q d its σ l N' σ0 ps asg body .nrm σ' h = (h[l]? = some (.loop .ready N' σ0 ps asg body) ∧ run P N' (some l) [] (QRnd P N r ks Q d its σ l N' σ0 ps asg body) body σ' (h.set l (.loop .busy N' σ0 ps asg body))) := (rfl)
theorem QRng_nrm : QRng P N r ks Q σ b rs .nrm σ' h = ((resAll σ' h rs).isSome = true ∧ outR P N r ks Q σ b h[b]? h) := (rfl)
theorem QRng_ret : QRng P N r ks Q σ b rs .ret σ' h = ((resAll σ' h rs).isSome = true ∧ outR P N r ks Q σ b h[b]? h) := (rfl)
theorem outR_nrm : outR P N r ks Q σ b (some (.loop .ready N' σ0 ps asg body)) h = unw P N r ks Q .nrm σ (h.set b .dead) := (rfl)
theorem outR_ret : outR P N r ks Q σ b (some (.loop (.done .ret) N' σ0 ps asg body)) h = unw P N r ks Q .ret σ (h.set b .dead) := (rfl)
theorem outR_ex : outR P N r ks Q σ b (some (.loop (.done (.exit i)) N' σ0 ps asg body)) h = unw P N r ks Q (.ex i) σ (h.set b .dead) := (rfl)

/-- **A call, walked where it stands.** -/
theorem callR_in (hm : P.follows .mixedOrders = true) (hg : GoodF P f N' c rs) (hl : Nat.ble vs.length N' = true) (hw : run P N' none [] (QFn P N r ks Q d its σ rs) c (argT 0 vs) h) : callR P N r ks Q f vs d its σ h := by
  refine good_sound hg hl (AW.mono (run_sound hm hw) fun x σ1 h1 hx => ?_)
  have key : backR P N r ks Q d its σ (resAll σ1 h1 rs) h1 → match resAll σ1 h1 rs with | some vs => rg P N r ks Q its (putσ σ d (resVal vs)) h1 | none => False := fun hb => by
    unfold backR at hb; exact hb
  cases x with
  | ex i => exact hx.elim
  | nrm => exact key hx
  | ret => exact key hx

/-- **A yield, walked where it stands.** -/
theorem callvR_yield (hm : P.follows .mixedOrders = true) (hh : h[l]? = some (.loop .ready N' σ0 ps asg body)) (hlen : vs.length = ps.length) (hps : ps.all (fun p => decide (p < N')) = true)
    (hw : run P N' (some l) [] (QAsg P N r ks Q d its σ l N' σ0 ps asg body) asg (bindσ σ0 ps vs) h) : callvR P N r ks Q (.func (.yield l) #[] #[]) vs d its σ h := by
  refine ⟨rfl, AYields.of hh hlen (fun p hp => of_decide_eq_true (List.all_eq_true.1 hps p hp)) (AW.mono (run_sound hm hw) fun x σ1 h1 hx => ?_)⟩
  cases x with
  | ex i => exact hx.elim
  | ret => exact hx.elim
  | nrm =>
    obtain ⟨h1, h2⟩ := hx
    refine ⟨h1, AW.mono (run_sound hm h2) fun y σ2 g hy => ?_⟩
    cases y <;> exact hy

/-- **A range over a function, walked where it stands.** -/
theorem rangeR_in (hm : P.follows .mixedOrders = true) {o : Operand} {x y : Array Value} (hg : GoodF P f N' c rs) (hl : Nat.ble (x.toList ++ [Value.func (.yield h.length) #[] #[]] ++ y.toList).length N' = true)
    (hin : ∀ l, r = some l → ∃ s N' σ' ps' asg' body', h[l]? = some (.loop s N' σ' ps' asg' body'))
    (hw : run P N' none [] (QRng P N r ks Q σ h.length rs) c (argT 0 (x.toList ++ [Value.func (.yield h.length) #[] #[]] ++ y.toList)) (h ++ [.loop .ready N σ ps asg body])) :
    rangeR P N r ks Q (some (Value.func (Fn.func f) x y)) o ps asg body σ h := by
  intro hf
  refine AW.rangeF hf.symm hin (good_sound hg hl (AW.mono (run_sound hm hw) fun e σ1 h1 hx => ?_))
  have key : (resAll σ1 h1 rs).isSome = true ∧ outR P N r ks Q σ h.length h1[h.length]? h1 → match resAll σ1 h1 rs with | some vs => RngQ h.length N σ ps asg body (kQ P N r ks Q) (resVal vs) h1 | none => False := fun ⟨k1, k2⟩ => by
    cases e : resAll σ1 h1 rs with
    | none => rw [e] at k1; cases k1
    | some vs => exact k2
  cases e with
  | ex i => exact hx.elim
  | nrm => exact key hx
  | ret => exact key hx

theorem invR_of {t : TypeId} {u u' : Value} {nm : String} (hM : MethR P t nm u f u') (hw : callR P N r ks Q f (u' :: vs) d its σ h) : invR P N r ks Q t u nm vs d its σ h := ⟨f, u', hM, hw⟩
end

/-! ### What is no longer wanted -/

/-- No address of a block from n on. (fuel: how deep) -/
def okV (n : Nat) : Nat → Value → Bool
  | _, .bool _ | _, .int _ _ | _, .string _ | _, .pointer none | _, .slice none _ _ | _, .map none | _, .nilFunc | _, .nilIface => true
  | _, .pointer (some a) | _, .slice (some a) _ _ => decide (a.block < n)
  | _, .map (some r) => decide (r < n)
  | k + 1, .iface _ v => okV n k v
  | k + 1, .agg x | k + 1, .tuple x => x.toList.all (okV n k)
  | k + 1, .func f x y => (match f with
    | .yield l => decide (l < n)
    | _ => true) && (x.toList.all (okV n k) && y.toList.all (okV n k))
  | _, _ => false
def okB (n : Nat) : Blk → Bool
  | .dead => true
  | .cells _ cs | .row _ cs => cs.all (okV n 6)
  | .map es => es.all fun e => okV n 6 e.1 && okV n 6 e.2
  | .iter m _ _ => match m with
    | none => true
    | some m => decide (m < n)
  | .loop _ _ _ _ _ _ => false

/-- ι, below n. -/
def Inj.below (ι : Inj) (n : Nat) : Inj := fun b => if b < n then ι b else none
theorem Inj.below_le (ι : Inj) (n : Nat) : Le (ι.below n) ι := fun b x e => by
  unfold Inj.below at e; split at e <;> first | exact e | cases e
theorem Inj.below_lt {ι : Inj} {n b : Nat} (h : b < n) : ι.below n b = ι b := by simp [Inj.below, h]

theorem AdR.below {ι : Inj} {n : Nat} {a a' : Addr} (h : AdR ι a a') (hn : a.block < n) : AdR (ι.below n) a a' := by
  obtain ⟨h1, h2, o, K, h3, h4⟩ := h
  exact ⟨h1, h2, o, K, by rw [Inj.below_lt hn]; exact h3, h4⟩

theorem VR.cutN {ι : Inj} {n : Nat} : ∀ (k : Nat) {v v' : Value}, okV n k v = true → VR ι v v' → VR (ι.below n) v v' := by
  have row : ∀ (k : Nat) (x x' : Array Value), (∀ {v v' : Value}, okV n k v = true → VR ι v v' → VR (ι.below n) v v') → x.toList.all (okV n k) = true → (∀ (i : Nat) (v v' : Value), x[i]? = some v → x'[i]? = some v' → VR ι v v') →
      ∀ (i : Nat) (v v' : Value), x[i]? = some v → x'[i]? = some v' → VR (ι.below n) v v' := fun k x x' ih ha hX i v v' e e' =>
    ih (List.all_eq_true.1 ha v (by simpa using Array.mem_of_getElem? e)) (hX i v v' e e')
  intro k
  induction k with
  | zero =>
    intro v v' ho h
    cases h with
    | bool b => exact .bool b
    | int k n => exact .int k n
    | str s => exact .str s
    | pnil => exact .pnil
    | ptr h => exact .ptr (h.below (by simpa [okV] using ho))
    | snil l c => exact .snil l c
    | slice h1 h2 h3 h4 =>
      have hb := by simpa [okV] using ho
      exact .slice h1 h2 (fun hh => (h3 hh).below hb) fun hc b' o K e hz => h4 hc b' o K (Inj.below_le _ _ _ _ e) hz
    | mnil => exact .mnil
    | map h => exact .map (by rw [Inj.below_lt (by simpa [okV] using ho)]; exact h)
    | nilFunc => exact .nilFunc
    | nilIface => exact .nilIface
    | iface t h => simp [okV] at ho
    | agg hx hX => simp [okV] at ho
    | tuple hx hX => simp [okV] at ho
    | func hf hx hX hy hY => simp [okV] at ho
  | succ k ih =>
    intro v v' ho h
    cases h with
    | bool b => exact .bool b
    | int k n => exact .int k n
    | str s => exact .str s
    | pnil => exact .pnil
    | ptr h => exact .ptr (h.below (by simpa [okV] using ho))
    | snil l c => exact .snil l c
    | slice h1 h2 h3 h4 =>
      have hb := by simpa [okV] using ho
      exact .slice h1 h2 (fun hh => (h3 hh).below hb) fun hc b' o K e hz => h4 hc b' o K (Inj.below_le _ _ _ _ e) hz
    | mnil => exact .mnil
    | map h => exact .map (by rw [Inj.below_lt (by simpa [okV] using ho)]; exact h)
    | nilFunc => exact .nilFunc
    | nilIface => exact .nilIface
    | iface t h => exact .iface t (ih (by simpa only [okV] using ho) h)
    | agg hx hX => exact .agg hx (row k _ _ ih (by simpa only [okV] using ho) hX)
    | tuple hx hX => exact .tuple hx (row k _ _ ih (by simpa only [okV] using ho) hX)
    | @func f f' x x' y y' hf hx hX hy hY =>
      simp only [okV, Bool.and_eq_true] at ho
      obtain ⟨h0, h1, h2⟩ := ho
      refine .func ?_ hx (row k _ _ ih h1 hX) hy (row k _ _ ih h2 hY)
      cases f <;> simp only [FnR] at hf ⊢ <;> try exact hf
      obtain ⟨l', q1, q2⟩ := hf
      exact ⟨l', by rw [Inj.below_lt (of_decide_eq_true h0)]; exact q1, q2⟩

section
variable {P : Program} {N : Nat} {w0 : Fr} {ι ι' : Inj} {σ : Tm} {h h1 junk : AH} {w w' : World} {FC : Nat → Code → Option AC}

theorem BlkR.below {n B : Nat} {y : Nat × Nat × Option Nat} {k : Blk} {x : Option Obj} (ho : okB n k = true) (hb : BlkR FC ι B y k x) : BlkR FC (ι.below n) B y k x := by
  have all : ∀ {cs : List Value}, cs.all (okV n 6) = true → ∀ (i : Nat) (v : Value), cs[i]? = some v → okV n 6 v = true := fun ha i v e => List.all_eq_true.1 ha v (List.mem_of_getElem? e)
  cases k with
  | dead => trivial
  | cells rw cs =>
    obtain ⟨h0, C, e, fz, a, b, c⟩ := hb
    exact ⟨h0, C, e, fz, a, fun i v hv => let ⟨v', p, q⟩ := b i v hv; ⟨v', p, q.cutN 6 (all ho _ _ hv)⟩, c⟩
  | row s cs =>
    obtain ⟨h0, h1, C, e, K, a, b, c, d⟩ := hb
    exact ⟨h0, h1, C, e, K, a, b, c, fun i v hv => let ⟨v', p, q⟩ := d i v hv; ⟨v', p, q.cutN 6 (all ho _ _ hv)⟩⟩
  | map es =>
    obtain ⟨h0, h1, E, a, b, c⟩ := hb
    refine ⟨h0, h1, E, a, b, fun i e k v p q => ?_⟩
    obtain ⟨c1, c2, c3⟩ := c i e k v p q
    have hm := List.all_eq_true.1 ho (k, v) (List.mem_of_getElem? q)
    simp only [Bool.and_eq_true] at hm
    exact ⟨c1, c2.cutN 6 hm.1, c3.cutN 6 hm.2⟩
  | iter m n' seen =>
    obtain ⟨h0, h1, m', a, b, c⟩ := hb
    refine ⟨h0, h1, m', fun r hr => ?_, b, c⟩
    obtain ⟨r', p, q⟩ := a r hr
    subst hr
    exact ⟨r', by rw [Inj.below_lt (by simpa [okB] using ho)]; exact p, q⟩
  | loop s N σ ps asg body => simp [okB] at ho

/-- Each block is as it was, or names no block from n on. -/
def KeepH (h h1 : AH) : Prop := ∀ (b : Nat) (k : Blk), h1[b]? = some k → h[b]? = some k ∨ okB h1.length k = true

/-- The heap, without what was laid behind. -/
theorem HR.cut (hr : HR FC w0 ι h w) (hr' : HR FC w0 ι' (h1 ++ junk) w') (he : Ext h.length ι ι') (hl : h.length ≤ h1.length) (hk : KeepH h h1) : HR FC w0 (ι'.below h1.length) h1 w' where
  below := hr'.below
  dom b y e := by
    have hlt : b < h1.length := by unfold Inj.below at e; split at e <;> first | assumption | cases e
    exact ⟨hlt, (hr'.dom b y (by rw [← e, Inj.below_lt hlt])).2⟩
  blk b k y e i := by
    have hlt : b < h1.length := (List.getElem?_eq_some_iff.1 e).1
    rw [Inj.below_lt hlt] at i
    have h2 := hr'.blk b k y (get_push e) i
    rcases hk b k e with h0 | h0
    · have hb : b < h.length := (List.getElem?_eq_some_iff.1 h0).1
      have h3 := (hr.blk b k y h0 (by rw [← he b hb]; exact i)).back hr.Dom he h2
      refine h3.mono fun c x ec => ?_
      have := (hr.dom c x ec).1
      rw [Inj.below_lt (by omega), he c this]; exact ec
    · exact h2.below h0
  inj b c k l y z hb hc hyz ek el hne hrw := by
    have hlb : b < h1.length := (List.getElem?_eq_some_iff.1 ek).1
    have hlc : c < h1.length := (List.getElem?_eq_some_iff.1 el).1
    exact hr'.inj b c k l y z (by rw [← hb, Inj.below_lt hlb]) (by rw [← hc, Inj.below_lt hlc]) hyz (get_push ek) (get_push el) hne hrw
  mkd k hk := by
    obtain ⟨q1, q2⟩ := hr'.mkd k hk
    exact ⟨q1, fun b y e => q2 b y (Inj.below_le _ _ _ _ e)⟩

/-- **What a function laid for itself is forgotten; it may have turned blocks that were there.** -/
theorem ACalls.cut {f : FuncId} {args : List Value} {K : Value → AH → Prop}
    (hc : ACalls P f args h fun v h' => ∃ h1 junk, h' = h1 ++ junk ∧ h.length ≤ h1.length ∧ KeepH h h1 ∧ (okV h1.length 6 v = true ∨ v ∈ args) ∧ K v h1) : ACalls P f args h K := by
  refine ⟨hc.1, fun w0 ι w args' ha hr => (hc.2 w0 ι w args' ha hr).mono ?_⟩
  rintro e w' ⟨u, rfl, v, h', ι', ⟨h1, junk, rfl, hl, hkp, hp, hk⟩, k1, k2, k3, k4⟩
  have hext : Ext h.length ι (ι'.below h1.length) := fun b hb => by rw [Inj.below_lt (by omega)]; exact k2 b hb
  refine ⟨u, rfl, v, h1, ι'.below h1.length, hk, hl, hext, ?_, hr.cut k4 k2 hl hkp⟩
  rcases hp with hp | hp
  · exact k3.cutN 6 hp
  · obtain ⟨u0, h0⟩ := ha.mem hp
    exact (VR.back hr.Dom k2 h0 k3).mono (hext.le hr.Dom)

/-- What is asked of one round of a loop, which may lay blocks that are not wanted behind it. -/
def LoopG {X : Type} (p : X → Prop) (μ : X → Nat) (f : X → Tm) (g : X → AH) (f0 : Tm) (h0 : AH) (x : X) (Q : Ex → Tm → AH → Prop) : Ex → Tm → AH → Prop
  | .nrm, σ, h => ∃ y junk, p y ∧ μ y < μ x ∧ subT (f y) σ ∧ h = g y ++ junk ∧ h0.length ≤ (g y).length ∧ KeepH h0 (g y) ∧ ∀ t v, lk (f y) t = some v → lk f0 t = some v ∨ okV (g y).length 6 v = true
  | e, σ, h => Q e σ h

theorem AW.loopG {X : Type} {r : Option Nat} {c : AC} {Q : Ex → Tm → AH → Prop} (p : X → Prop) (μ : X → Nat) (f : X → Tm) (g : X → AH) (x0 : X) (h0 : p x0) (hs : subT (f x0) σ) (hg : h = g x0)
    (hw : ∀ x, p x → AW P N r c (LoopG p μ f g σ h x Q) (f x) (g x)) : AW P N r (.loop c) Q σ h := by
  intro C w0 ι a w r' hf hr hrr hl
  obtain ⟨A, rfl, h1⟩ := flatC_inv hf
  have key : ∀ (m : Nat) (x : X) (ι1 : Inj) (ns : List Nat) (a1 : Act) (w1 : World), μ x < m → p x → h.length ≤ (g x).length → Ext h.length ι ι1 → Rel P (w0.add ns) N ι1 (f x) (g x) a1 w1 → a1.defers = Mk ns ++ a.defers → ns.Nodup →
      (∀ k ∈ ns, k ∉ w0.marks ∧ w0.heap.size ≤ k) → Code.roundsIn (rf r') 0 P A (APost P N w0 ι h.length a.defers Q) m a1 w1 := by
    intro m
    induction m with
    | zero => intro x _ _ _ _ hm; omega
    | succ m ih =>
      intro x ι1 ns a1 w1 hm hp hn hx hr1 hd hnd hdis
      rw [roundsIn_succ]
      refine wpIn_mono (hw x hp A (w0.add ns) ι1 a1 w1 r' h1 hr1 (hrr.ext hx hl) (fun l e => Nat.lt_of_lt_of_le (hl l e) hn)) fun e a2 w2 hp2 => ?_
      rw [hd] at hp2
      have hp3 := hp2.trans hn hx hnd hdis
      obtain ⟨x2, σ', h', ι', ns2, rfl, q, q1, q2, q3, q4, q5, q6⟩ := hp3
      cases x2 with
      | nrm =>
        obtain ⟨y, junk, y1, y2, y3, rfl, y5, y6, y7⟩ := q
        have hr0 : HR (flatC P) (w0.add ns2) ι h w → True := fun _ => trivial
        have hext : Ext h.length ι (ι'.below (g y).length) := fun b hb => by rw [Inj.below_lt (by omega)]; exact q2 b hb
        refine ih y (ι'.below (g y).length) ns2 a2 w2 (by omega) y1 y5 hext ⟨q3.size, fun t v e => ?_, ?_⟩ q4 q5 q6
        · obtain ⟨v', e1, e2⟩ := q3.tr t v (y3 t v e)
          refine ⟨v', e1, ?_⟩
          rcases y7 t v e with hv | hv
          · obtain ⟨v0, _, f2⟩ := hr.tr t v hv
            exact (VR.back hr.hr.Dom q2 f2 e2).mono (hext.le hr.hr.Dom)
          · exact e2.cutN 6 hv
        · -- the marks of the loop under way do not stand in the world at its start: only the blocks of it are asked
          exact
            { below := q3.hr.below
              dom := fun b z e => by
                have hlt : b < (g y).length := by unfold Inj.below at e; split at e <;> first | assumption | cases e
                exact ⟨hlt, (q3.hr.dom b z (by rw [← e, Inj.below_lt hlt])).2⟩
              blk := fun b k z e i => by
                have hlt : b < (g y).length := (List.getElem?_eq_some_iff.1 e).1
                rw [Inj.below_lt hlt] at i
                have h2 := q3.hr.blk b k z (get_push e) i
                rcases y6 b k e with hz | hz
                · have hb : b < h.length := (List.getElem?_eq_some_iff.1 hz).1
                  have h3 := (hr.hr.blk b k z hz (by rw [← q2 b hb]; exact i)).back hr.hr.Dom q2 h2
                  exact h3.mono (hext.le hr.hr.Dom)
                · exact h2.below hz
              inj := fun b c k l z1 z2 hb hc hyz ek el hne hrw => by
                have hlb : b < (g y).length := (List.getElem?_eq_some_iff.1 ek).1
                have hlc : c < (g y).length := (List.getElem?_eq_some_iff.1 el).1
                exact q3.hr.inj b c k l z1 z2 (by rw [← hb, Inj.below_lt hlb]) (by rw [← hc, Inj.below_lt hlc]) hyz (get_push ek) (get_push el) hne hrw
              mkd := fun k hk => by
                obtain ⟨u1, u2⟩ := q3.hr.mkd k hk
                exact ⟨u1, fun b z e => u2 b z (Inj.below_le _ _ _ _ e)⟩ }
      | ex i => exact ⟨.ex i, σ', h', ι', ns2, rfl, q, q1, q2, q3, q4, q5, q6⟩
      | ret => exact ⟨.ret, σ', h', ι', ns2, rfl, q, q1, q2, q3, q4, q5, q6⟩
  refine wpIn_loop_rounds (μ x0 + 1) (key _ x0 ι [] a w (by omega) h0 (by rw [hg]; exact Nat.le_refl _) (Ext.refl _ _) ?_ rfl List.nodup_nil (fun k hk => by simp at hk))
  subst hg
  exact ⟨hr.size, fun t v e => hr.tr t v (hs t v e), hr.hr⟩
end
end Go.Pw
