/- The abstract logic in which the functions of the program are walked, part 27. No condition. -/
import Derived.Test.YtkpafafiaicfpaaPwZ
set_option linter.unusedSimpArgs false
set_option linter.unusedVariables false
set_option linter.unusedSectionVars false
/-! The abstract logic, part T: slices as lists. -/
namespace Go.Pw

theorem snoc_ind {α : Type} {p : List α → Prop} (h0 : p []) (h1 : ∀ l a, p l → p (l ++ [a])) (l : List α) : p l := by
  have : ∀ l : List α, p l.reverse := fun l => by
    induction l with
    | nil => exact h0
    | cons a l ih => rw [List.reverse_cons]; exact h1 _ _ ih
  rw [← List.reverse_reverse l]; exact this _

/-- The elements, of q cells each, that lie from an address on. -/
def SlA (h : AH) (q : Nat) (a : Option Addr) (xs : List (List Value)) : Prop :=
  ∀ (i : Nat) (x : List Value), xs[i]? = some x → ∃ b o cs, a = some ⟨b, o, none⟩ ∧ rdc h b = some cs ∧ subN (o + i * q) q cs = some x

section
variable {P : Program} {N : Nat} {r : Option Nat} {Q : Ex → Tm → AH → Prop} {σ : Tm} {h : AH} {ks : List Kf} {its : List It} {d : Option Nat} {q o i j : Nat} {cs x vs : List Value}

/-- An operation that is looked at again. -/
def agS (v : Value) (h : AH) (s : Option Step) (R : Prop) : Prop := match s with
  | some (v2, none, h2) => v2 = v ∧ h2 = h ∧ R
  | some (v2, some k, h2) => v2 = v ∧ h2 = h ∧ h[bOf v]? = some k ∧ R
  | none => False
def agR (vs : Option (List Value)) (v : Option Value) (opc : Opc) (h : AH) (R : Prop) : Prop := match vs, v with
  | some vs, some v => agS v h (semE (bOf v) opc vs h) R
  | _, _ => False
def agG (g : Option Value) (w : Bool) (σ : Tm) (xs : List Operand) (d : Nat) (opc : Opc) (h : AH) (R : Prop) : Prop := match g with
  | some (.bool b) => if b = w then agR (aevs σ xs) (lk σ d) opc h R else R
  | some _ => R
  | none => False
theorem rg_ag {d : Nat} {opc : Opc} {xs : List Operand} : rg P N r ks Q (.again ⟨some d, opc, xs, none⟩ :: its) σ h = agR (aevs σ xs) (lk σ d) opc h (rg P N r ks Q its σ h) := by
  rw [rg_again]
  show (againW σ h _ ∧ _) = _
  unfold againW agR agS gateW
  simp only [Option.bind_some]
  cases aevs σ xs with
  | none => simp
  | some vs =>
    cases lk σ d with
    | none => simp
    | some v =>
      simp only
      cases semE (bOf v) opc vs h with
      | none => simp
      | some s =>
        obtain ⟨v2, nb, h2⟩ := s
        cases nb <;> simp [and_assoc]
theorem rg_agg {d t : Nat} {w : Bool} {opc : Opc} {xs : List Operand} : rg P N r ks Q (.again ⟨some d, opc, xs, some (t, w)⟩ :: its) σ h = agG (lk σ t) w σ xs d opc h (rg P N r ks Q its σ h) := by
  have h0 := rg_ag (P := P) (N := N) (r := r) (ks := ks) (Q := Q) (its := its) (σ := σ) (h := h) (d := d) (opc := opc) (xs := xs)
  rw [rg_again] at h0 ⊢
  have h1 : againW σ h ⟨some d, opc, xs, some (t, w)⟩ = gateW σ (some (t, w)) (againW σ h ⟨some d, opc, xs, none⟩) True := rfl
  rw [h1]
  unfold agG gateW
  simp only
  cases lk σ t with
  | none => simp
  | some v =>
    cases v <;> simp only [true_and]
    rename_i b
    by_cases hb : b = w
    · simp only [hb, if_true]; exact h0
    · simp only [hb, if_false, true_and]
theorem agR_some {opc : Opc} {v : Value} {R : Prop} : agR (some vs) (some v) opc h R = agS v h (semE (bOf v) opc vs h) R := (rfl)
theorem agS_none {v v2 : Value} {h2 : AH} {R : Prop} : agS v h (some (v2, none, h2)) R = (v2 = v ∧ h2 = h ∧ R) := (rfl)
theorem agS_some {v v2 : Value} {k : Blk} {h2 : AH} {R : Prop} : agS v h (some (v2, some k, h2)) R = (v2 = v ∧ h2 = h ∧ h[bOf v]? = some k ∧ R) := (rfl)
theorem agG_tt {xs : List Operand} {d : Nat} {opc : Opc} {R : Prop} : agG (some (.bool true)) true σ xs d opc h R = agR (aevs σ xs) (lk σ d) opc h R := (rfl)
theorem agG_ff {xs : List Operand} {d : Nat} {opc : Opc} {R : Prop} : agG (some (.bool false)) false σ xs d opc h R = agR (aevs σ xs) (lk σ d) opc h R := (rfl)
theorem agG_tf {xs : List Operand} {d : Nat} {opc : Opc} {R : Prop} : agG (some (.bool true)) false σ xs d opc h R = R := (rfl)
theorem agG_ft {xs : List Operand} {d : Nat} {opc : Opc} {R : Prop} : agG (some (.bool false)) true σ xs d opc h R = R := (rfl)
theorem agG_un {xs : List Operand} {d : Nat} {opc : Opc} {w : Bool} {R : Prop} : agG (some undef) w σ xs d opc h R = R := (rfl)
theorem bOf_ptr {b o : Nat} : bOf (.pointer (some ⟨b, o, none⟩)) = b := (rfl)
/-- A yield, its loop's record looked up. -/
def yR (P : Program) (N : Nat) (r : Option Nat) (ks : List Kf) (Q : Ex → Tm → AH → Prop) (l : Nat) (vs : List Value) (d : Option Nat) (its : List It) (σ : Tm) (h : AH) (k : Option Blk) : Prop := match k with
  | some (.loop .ready N' σ0 ps asg body) => vs.length = ps.length ∧ ps.all (fun p => decide (p < N')) = true ∧ run P N' (some l) [] (QAsg P N r ks Q d its σ l N' σ0 ps asg body) asg (bindσ σ0 ps vs) h
  | _ => False
theorem yR_some {l N' : Nat} {σ0 : Tm} {ps : List Nat} {asg body : AC} : yR P N r ks Q l vs d its σ h (some (.loop .ready N' σ0 ps asg body)) =
    (vs.length = ps.length ∧ ps.all (fun p => decide (p < N')) = true ∧ run P N' (some l) [] (QAsg P N r ks Q d its σ l N' σ0 ps asg body) asg (bindσ σ0 ps vs) h) := (rfl)
theorem callvR_y (hm : P.follows .mixedOrders = true) {l : Nat} (hw : yR P N r ks Q l vs d its σ h h[l]?) : callvR P N r ks Q (.func (.yield l) #[] #[]) vs d its σ h := by
  unfold yR at hw
  split at hw
  · rename_i e
    exact callvR_yield hm e hw.1 hw.2.1 hw.2.2
  · exact hw.elim
theorem bindσ_nil {σ0 : Tm} : bindσ σ0 [] [] = σ0 := (rfl)
theorem bindσ_cons {σ0 : Tm} {p : Nat} {ps : List Nat} {v : Value} : bindσ σ0 (p :: ps) (v :: vs) = bindσ ((p, v) :: σ0) ps vs := (rfl)
theorem rndR_eq {l N' : Nat} {σ0 : Tm} {ps : List Nat} {asg body : AC} {t : Bool} {s : LSt} : rndR P N r ks Q d its σ l N' σ0 ps asg body t s h = (h[l]? = some (.loop .busy N' σ0 ps asg body) ∧ rg P N r ks Q its (putσ σ d (.bool t)) (h.set l (.loop s N' σ0 ps asg body))) := (rfl)
theorem toList_arr {l : List Value} : l.toArray.toList = l := (rfl)
/-- A result that lies in memory. -/
def oneR (p : Option Value) (h : AH) : Option Value := match p with
  | some (.pointer (some a)) => rd1 h a
  | _ => none
def mkAg (cs : Option (List Value)) : Option Value := match cs with
  | some cs => some (.agg cs.toArray)
  | none => none
def manyR (p : Option Value) (n : Nat) (h : AH) : Option Value := match p with
  | some (.pointer (some a)) => mkAg (rdN h a n)
  | _ => none
theorem resOne_one {t : Nat} : resOne σ h (.one t) = oneR (lk σ t) h := (rfl)
theorem resOne_many {t n : Nat} : resOne σ h (.many t n) = manyR (lk σ t) n h := by
  show (match lk σ t with
    | some (.pointer (some a)) => (rdN h a n).map fun (cs : List Value) => Value.agg cs.toArray
    | _ => none) = manyR (lk σ t) n h
  unfold manyR mkAg
  cases lk σ t with
  | none => rfl
  | some v =>
    cases v <;> try rfl
    rename_i p
    cases p with
    | none => rfl
    | some a => simp only; cases rdN h a n <;> rfl
theorem oneR_ptr {b o : Nat} : oneR (some (.pointer (some ⟨b, o, none⟩))) h = (rdc h b).bind fun cs => cs[o]? := rd1_mk
theorem manyR_ptr {b o n : Nat} : manyR (some (.pointer (some ⟨b, o, none⟩))) n h = mkAg ((rdc h b).bind (subN o n)) := by
  show mkAg (rdN h ⟨b, o, none⟩ n) = _
  rw [rdN_mk]; rfl
theorem mkAg_some {cs : List Value} : mkAg (some cs) = some (.agg cs.toArray) := (rfl)
theorem callvR_of {f : Value} {K : Value → AH → Prop} (hc : ACallV P f vs h K) (hk : ∀ v h', K v h' → rg P N r ks Q its (putσ σ d v) h') : callvR P N r ks Q f vs d its σ h := hc.mono hk

theorem callR_eq {f : FuncId} {u : Value} {H : AH} (hc : ACalls P f vs h fun v h' => h' = H ∧ v = u) (hk : rg P N r ks Q its (putσ σ d u) H) : callR P N r ks Q f vs d its σ h :=
  hc.mono fun _ _ ⟨e1, e2⟩ => by rw [e1, e2]; exact hk
theorem callvR_eq {f u : Value} {H : AH} (hc : ACallV P f vs h fun v h' => h' = H ∧ v = u) (hk : rg P N r ks Q its (putσ σ d u) H) : callvR P N r ks Q f vs d its σ h :=
  hc.mono fun _ _ ⟨e1, e2⟩ => by rw [e1, e2]; exact hk

theorem subN_len (hs : subN o q cs = some x) : x.length = q ∧ o + q ≤ cs.length := by
  unfold subN at hs
  split at hs <;> cases hs
  rename_i hle
  exact ⟨by simp; omega, hle⟩
theorem subN_get (hs : subN o q cs = some x) (hj : j < q) : cs[o + j]? = x[j]? := by
  unfold subN at hs
  split at hs <;> cases hs
  rename_i hle
  simp [List.getElem?_take, hj]
theorem subN_sub {m : Nat} (hs : subN o q cs = some x) (hj : j + m ≤ q) : subN (o + j) m cs = some ((x.drop j).take m) := by
  unfold subN at hs ⊢
  split at hs <;> cases hs
  rename_i hle
  rw [if_pos (by omega)]
  congr 1
  rw [List.drop_take, List.take_take, List.drop_drop, Nat.min_eq_left (by omega)]
theorem SlA.at {h : AH} {q : Nat} {a : Option Addr} {xs : List (List Value)} (hS : SlA h q a xs) (h0 : 0 < xs.length) : ∃ b o cs, a = some ⟨b, o, none⟩ ∧ rdc h b = some cs ∧ ∀ (i : Nat) (x : List Value), xs[i]? = some x → subN (o + i * q) q cs = some x := by
  obtain ⟨b, o, cs, rfl, h2, h3⟩ := hS 0 xs[0] (List.getElem?_eq_getElem h0)
  refine ⟨b, o, cs, rfl, h2, fun i x e => ?_⟩
  obtain ⟨b', o', cs', e1, e2, e3⟩ := hS i x e
  cases e1
  rw [h2] at e2
  cases e2
  exact e3
theorem SlA.old {l : AH} {a : Option Addr} {xs : List (List Value)} (hs : SlA h q a xs) : SlA (h ++ l) q a xs := fun i x e => by
  obtain ⟨b, o, cs, h1, h2, h3⟩ := hs i x e
  exact ⟨b, o, cs, h1, rdc_old h2, h3⟩

theorem keepH_app {l0 l1 : AH} (hl : l1.all (okB (h.length + l1.length)) = true) : KeepH (h ++ l0) (h ++ l1) := fun b k e => by
  by_cases hb : b < h.length
  · rw [List.getElem?_append_left hb] at e ⊢; exact .inl e
  · rw [List.getElem?_append_right (by omega)] at e
    right
    rw [List.length_append]
    exact List.all_eq_true.1 hl k (List.mem_of_getElem? e)
theorem round_endJ {X : Type} {p : X → Prop} {μ : X → Nat} {f : X → Tm} {g : X → AH} {f0 : Tm} {junk : AH} {x : X} (y : X) (h1 : p y) (h2 : μ y < μ x) (h3 : subT (f y) σ) (h5 : h = g y) (h6 : okT h.length f0 (f y)) : LoopG p μ f g f0 h x Q .nrm σ (h ++ junk) :=
  round_end y junk h1 h2 h3 (by rw [h5]) h5 h6
theorem round_end0 {X : Type} {p : X → Prop} {μ : X → Nat} {f : X → Tm} {g : X → AH} {f0 : Tm} {x : X} (y : X) (h1 : p y) (h2 : μ y < μ x) (h3 : subT (f y) σ) (h5 : h = g y) (h6 : okT h.length f0 (f y)) : LoopG p μ f g f0 h x Q .nrm σ h :=
  round_end y [] h1 h2 h3 (by rw [h5, List.append_nil]) h5 h6
/-- Elements are appended to a row, for which there is no room behind it. -/
theorem stR_app {B bytes l l2 c2 p q o : Nat} {z cs ys xs : List Value} (hB : B = h.length) (hl : 0 < l) (hl2 : 0 < l2) (h1 : h[p]? = some (.row z.length cs)) (h2 : cs.length = l * z.length) (h3 : rdc h q = some ys) (h4 : subN o (l2 * z.length) ys = some xs) (h5 : xs.all oneV = true)
    (h6 : (l + l2) * bytes ≤ 2 ^ 40 ∧ l + l2 ≤ 2 ^ 40) (hw : rg P N r ks Q its (putσ σ d (.slice (some ⟨h.length, 0, none⟩) (l + l2) (l + l2))) (h.set p .dead ++ [.row z.length (cs ++ xs)])) :
    stR P N r ks Q (semE B (.app bytes z) [.slice (some ⟨p, 0, none⟩) l l, .slice (some ⟨q, o, none⟩) l2 c2] h) d its σ := by
  subst hB
  have e : semE h.length (.app bytes z) [.slice (some ⟨p, 0, none⟩) l l, .slice (some ⟨q, o, none⟩) l2 c2] h = some (.slice (some ⟨h.length, 0, none⟩) (l + l2) (l + l2), some (.row z.length (cs ++ xs)), h.set p .dead) := by
    show semApp h.length bytes z (some ⟨p, 0, none⟩) l l (some ⟨q, o, none⟩) l2 h = _
    have hs : srcA h (some ⟨q, o, none⟩) (l2 * z.length) = some xs := by
      unfold srcA
      by_cases h0 : l2 * z.length = 0
      · rw [if_pos h0]
        have := (subN_len h4).1
        rw [h0] at this
        rw [List.eq_nil_of_length_eq_zero this]
      · rw [if_neg h0, Option.bind_some, rdN_mk, h3]
        exact h4
    unfold semApp
    rw [if_neg (by omega), hs, Option.bind_some, if_pos h6, if_neg (by omega)]
    simp only [h1]
    rw [if_pos ⟨trivial, trivial, trivial, h5⟩, if_neg (by omega), if_pos h2]
  rw [e]
  exact hw
theorem stR_app0 {B bytes l2 c2 q o : Nat} {z ys xs : List Value} {a : Option Addr} (hB : B = h.length) (hl2 : 0 < l2) (h3 : rdc h q = some ys) (h4 : subN o (l2 * z.length) ys = some xs) (h6 : l2 * bytes ≤ 2 ^ 40 ∧ l2 ≤ 2 ^ 40)
    (hw : rg P N r ks Q its (putσ σ d (.slice (some ⟨h.length, 0, none⟩) l2 l2)) (h ++ [.row z.length xs])) :
    stR P N r ks Q (semE B (.app bytes z) [.slice a 0 0, .slice (some ⟨q, o, none⟩) l2 c2] h) d its σ := by
  subst hB
  have e : semE h.length (.app bytes z) [.slice a 0 0, .slice (some ⟨q, o, none⟩) l2 c2] h = some (.slice (some ⟨h.length, 0, none⟩) l2 l2, some (.row z.length xs), h) := by
    show semApp h.length bytes z a 0 0 (some ⟨q, o, none⟩) l2 h = _
    have hs : srcA h (some ⟨q, o, none⟩) (l2 * z.length) = some xs := by
      unfold srcA
      by_cases h0 : l2 * z.length = 0
      · rw [if_pos h0]
        have := (subN_len h4).1
        rw [h0] at this
        rw [List.eq_nil_of_length_eq_zero this]
      · rw [if_neg h0, Option.bind_some, rdN_mk, h3]
        exact h4
    unfold semApp
    rw [if_neg (by omega), hs, Option.bind_some, if_pos (by rw [Nat.zero_add]; exact h6), if_pos rfl, if_pos rfl]
  rw [e]
  exact hw
def ap0 (B s l2 : Nat) (t : Bool) (xs : Option (List Value)) (h : AH) : Option Step := match t, xs with
  | true, some xs => some (.slice (some ⟨B, 0, none⟩) l2 l2, some (.row s xs), h)
  | _, _ => none
theorem ap0_some {B s l2 : Nat} {xs : List Value} : ap0 B s l2 true (some xs) h = some (.slice (some ⟨B, 0, none⟩) l2 l2, some (.row s xs), h) := (rfl)
theorem semE_app0 {B bytes l2 c2 q o : Nat} {z : List Value} {a : Option Addr} : semE B (.app bytes z) [.slice a 0 0, .slice (some ⟨q, o, none⟩) (l2 + 1) c2] h = ap0 B z.length (l2 + 1) (decide ((l2 + 1) * bytes ≤ 1099511627776) && decide (l2 + 1 ≤ 1099511627776)) ((rdc h q).bind (subN o ((l2 + 1) * z.length))) h ∨ z = [] := by
  by_cases hz : z = []
  · exact .inr hz
  left
  have hzl : 0 < z.length := List.length_pos_iff.2 hz
  show semApp B bytes z a 0 0 (some ⟨q, o, none⟩) (l2 + 1) h = _
  have hs : srcA h (some ⟨q, o, none⟩) ((l2 + 1) * z.length) = (rdc h q).bind (subN o ((l2 + 1) * z.length)) := by
    unfold srcA
    rw [if_neg (Nat.pos_iff_ne_zero.1 (Nat.mul_pos (Nat.succ_pos l2) hzl)), Option.bind_some, rdN_mk]; rfl
  unfold semApp
  rw [if_neg (by omega), hs]
  cases (rdc h q).bind (subN o ((l2 + 1) * z.length)) with
  | none => unfold ap0; simp
  | some xs =>
    simp only [Option.bind_some, Nat.zero_add]
    by_cases h1 : (l2 + 1) * bytes ≤ 1099511627776
    · by_cases h2 : l2 + 1 ≤ 1099511627776
      · rw [if_pos ⟨h1, h2⟩]; simp [ap0, h1, h2]
      · rw [if_neg (fun hh => h2 hh.2)]; simp [ap0, h2]
    · rw [if_neg (fun hh => h1 hh.1)]; simp [ap0, h1]
theorem semE_app0' {B bytes l2 c2 q o : Nat} {v : Value} {z : List Value} {a : Option Addr} : semE B (.app bytes (v :: z)) [.slice a 0 0, .slice (some ⟨q, o, none⟩) (l2 + 1) c2] h = ap0 B (v :: z).length (l2 + 1) (decide ((l2 + 1) * bytes ≤ 1099511627776) && decide (l2 + 1 ≤ 1099511627776)) ((rdc h q).bind (subN o ((l2 + 1) * (v :: z).length))) h := by
  rcases semE_app0 (h := h) (B := B) (bytes := bytes) (l2 := l2) (c2 := c2) (q := q) (o := o) (z := v :: z) (a := a) with e | e
  · exact e
  · cases e
/-- Nothing is appended. -/
theorem stR_appN {B bytes l c c2 : Nat} {z : List Value} {a a2 : Option Addr} (hl : l ≤ c) (hw : rg P N r ks Q its (putσ σ d (.slice a l c)) h) : stR P N r ks Q (semE B (.app bytes z) [.slice a l c, .slice a2 0 c2] h) d its σ := by
  have e : semE B (.app bytes z) [.slice a l c, .slice a2 0 c2] h = some (.slice a l c, none, h) := by
    show semApp B bytes z a l c a2 0 h = _
    unfold semApp
    rw [if_pos rfl, if_pos hl]
  rw [e, stR_none]
  exact hw

/-- A loop that forgets nothing. -/
theorem loopR_all {X : Type} {c : AC} (hm : P.follows .mixedOrders = true) (p : X → Prop) (μ : X → Nat) (f : X → Tm) (g : X → AH) (x0 : X) (h0 : p x0) (hs : subT (f x0) σ) (hg : h = g x0)
    (hw : ∀ x, p x → run P N r [] (LoopQ p μ f g x (kQ P N r ks Q)) c (f x) (g x)) : loopR P N r ks Q c σ h :=
  AW.loop p μ f g x0 h0 hs hg fun x hx => run_sound hm (hw x hx)
theorem LoopQ_ret {X : Type} {p : X → Prop} {μ : X → Nat} {f : X → Tm} {g : X → AH} {x : X} : LoopQ p μ f g x (kQ P N r ks Q) .ret σ h = unw P N r ks Q .ret σ h := (rfl)
theorem LoopQ_ex {X : Type} {p : X → Prop} {μ : X → Nat} {f : X → Tm} {g : X → AH} {x : X} {i : Nat} : LoopQ p μ f g x (kQ P N r ks Q) (.ex i) σ h = unw P N r ks Q (.ex i) σ h := (rfl)
theorem round_endQ {X : Type} {p : X → Prop} {μ : X → Nat} {f : X → Tm} {g : X → AH} {x : X} (y : X) (h1 : p y) (h2 : μ y < μ x) (h3 : subT (f y) σ) (h4 : h = g y) : LoopQ p μ f g x Q .nrm σ h := ⟨y, h1, h2, h3, h4⟩

/-- A heap that goes on from another one. -/
def Ag (h0 h : AH) : Prop := ∃ J, h = h0 ++ J
theorem Ag.refl (h : AH) : Ag h h := ⟨[], by simp⟩
theorem Ag.new (h l : AH) : Ag h (h ++ l) := ⟨l, rfl⟩
theorem Ag.app {h0 h l : AH} (ha : Ag h0 h) : Ag h0 (h ++ l) := by obtain ⟨J, rfl⟩ := ha; exact ⟨J ++ l, by simp⟩
theorem Ag.trans {h0 h h1 : AH} (ha : Ag h0 h) (hb : Ag h h1) : Ag h0 h1 := by obtain ⟨J, rfl⟩ := ha; obtain ⟨K, rfl⟩ := hb; exact ⟨J ++ K, by simp⟩
theorem Ag.set {h0 h : AH} {q : Nat} {k : Blk} (ha : Ag h0 h) (hq : h0.length ≤ q) : Ag h0 (h.set q k) := by
  obtain ⟨J, rfl⟩ := ha
  exact ⟨J.set (q - h0.length) k, by rw [List.set_append_right _ _ hq]⟩
theorem Ag.get {h0 h : AH} {b : Nat} {k : Blk} (ha : Ag h0 h) (hb : h0[b]? = some k) : h[b]? = some k := by obtain ⟨J, rfl⟩ := ha; exact get_push hb
theorem Ag.len {h0 h : AH} (ha : Ag h0 h) : h0.length ≤ h.length := by obtain ⟨J, rfl⟩ := ha; simp
theorem Ag.rdc {h0 h : AH} {b : Nat} {cs : List Value} (ha : Ag h0 h) (hb : rdc h0 b = some cs) : Go.Pw.rdc h b = some cs := by obtain ⟨J, rfl⟩ := ha; exact rdc_old hb
theorem Ag.sl {h0 h : AH} {q : Nat} {a : Option Addr} {xs : List (List Value)} (ha : Ag h0 h) (hs : SlA h0 q a xs) : SlA h q a xs := by
  intro i x e
  obtain ⟨b, o, cs, h1, h2, h3⟩ := hs i x e
  exact ⟨b, o, cs, h1, ha.rdc h2, h3⟩
theorem get_set_old {b : Nat} {k : Blk} {l : AH} (hb : b < h.length) : (h.set b k ++ l)[b]? = some k := by
  rw [List.getElem?_append_left (by simpa using hb), List.getElem?_set_self hb]
theorem get_set_app {q i : Nat} {k : Blk} {l : AH} : (h.set q k ++ l)[h.length + i]? = l[i]? := by
  have := get_app (h := h.set q k) (l := l) (i := i)
  simpa using this
theorem resVal_two {v w : Value} {vs : List Value} : resVal (v :: w :: vs) = .tuple (v :: w :: vs).toArray := (rfl)
theorem cast_0 : ((0 : Nat) : Int) = 0 := (rfl)
theorem cast_1 : ((1 : Nat) : Int) = 1 := (rfl)
theorem cast_2 : ((2 : Nat) : Int) = 2 := (rfl)
theorem cast_3 : ((3 : Nat) : Int) = 3 := (rfl)
theorem cast_4 : ((4 : Nat) : Int) = 4 := (rfl)
theorem cast_5 : ((5 : Nat) : Int) = 5 := (rfl)
theorem cast_6 : ((6 : Nat) : Int) = 6 := (rfl)
theorem cast_7 : ((7 : Nat) : Int) = 7 := (rfl)
theorem cast_8 : ((8 : Nat) : Int) = 8 := (rfl)
theorem cast_9 : ((9 : Nat) : Int) = 9 := (rfl)
theorem cast_10 : ((10 : Nat) : Int) = 10 := (rfl)
theorem cast_11 : ((11 : Nat) : Int) = 11 := (rfl)
theorem cast_12 : ((12 : Nat) : Int) = 12 := (rfl)
theorem cast_13 : ((13 : Nat) : Int) = 13 := (rfl)
theorem cast_14 : ((14 : Nat) : Int) = 14 := (rfl)
theorem cast_15 : ((15 : Nat) : Int) = 15 := (rfl)
theorem cast_16 : ((16 : Nat) : Int) = 16 := (rfl)
theorem SlA.one {q b : Nat} {x : List Value} (hr : rdc h b = some x) (hx : x.length = q) : SlA h q (some ⟨b, 0, none⟩) [x] := fun i y e => by
  cases i with
  | zero =>
    simp at e; subst e
    refine ⟨b, 0, x, rfl, hr, ?_⟩
    unfold subN
    rw [if_pos (by omega)]
    simp [← hx]
  | succ i => simp at e
theorem rdc_of_cells {b : Nat} {rw : Bool} {cs : List Value} (hb : h[b]? = some (.cells rw cs)) : rdc h b = some cs := by unfold rdc; rw [hb]
theorem rdc_of_row {b s : Nat} {cs : List Value} (hb : h[b]? = some (.row s cs)) : rdc h b = some cs := by unfold rdc; rw [hb]

/-- The end of a round, of a loop that writes blocks that were laid ahead of it. -/
theorem round_endA {X : Type} {p : X → Prop} {μ : X → Nat} {f : X → Tm} {g : X → AH} {f0 : Tm} {l0 L : AH} {x : X} (y : X) (h1 : p y) (h2 : μ y < μ x) (h3 : subT (f y) σ) (h4 : l0.length ≤ L.length) (h5 : g y = h ++ L.take l0.length)
    (h7 : (L.take l0.length).all (okB (h.length + l0.length)) = true) (h8 : okT (h.length + l0.length) f0 (f y)) : LoopG p μ f g f0 (h ++ l0) x Q .nrm σ (h ++ L) := by
  have hl : (L.take l0.length).length = l0.length := by simp; omega
  refine ⟨y, L.drop l0.length, h1, h2, h3, ?_, ?_, ?_, ?_⟩
  · rw [h5, List.append_assoc, List.take_append_drop]
  · rw [h5]; simp only [List.length_append, hl]; omega
  · rw [h5]; exact keepH_app (by rw [hl]; exact h7)
  · rw [h5, List.length_append, hl]; exact okT_all h8

theorem wrap_u64 {n : Int} (h1 : 0 ≤ n) (h2 : n ≤ 18446744073709551615) : IntKind.u64.wrap n = n := by
  show n.emod (2 ^ 64) = n
  exact Int.emod_eq_of_lt h1 (by omega)
theorem binA_shr1 {q : EqK} {k' : IntKind} {n : Int} (h1 : 0 ≤ n) : binA .shr q (.int .u64 n) (.int k' 1) = some (.int .u64 (n / 2)) := by
  show some (Value.int .u64 (n.fdiv 2)) = _
  rw [Int.fdiv_eq_ediv_of_nonneg _ (by omega)]

theorem toNat_cast (k : Nat) : ((k : Int)).toNat = k := rfl
theorem callV_fn {f : FuncId} {x y : List Value} {K : Value → AH → Prop} (hc : ACalls P f (x ++ vs ++ y) h K) : ACallV P (.func (.func f) x.toArray y.toArray) vs h K := hc
end
end Go.Pw
