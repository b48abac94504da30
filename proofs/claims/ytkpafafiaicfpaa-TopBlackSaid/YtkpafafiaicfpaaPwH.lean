/- The abstract logic in which the functions of the program are walked, part 8. No condition. -/
import Derived.Test.YtkpafafiaicfpaaPwG
import Derived.Laws.Append
import Derived.Laws.IdiomRangeMap
set_option linter.unusedSimpArgs false
set_option linter.unusedVariables false
set_option linter.unusedSectionVars false
/-! The abstract logic, part H: append and copy. -/
namespace Go.Pw
open Go.RowKit (Below)

def srcA (h : AH) (a : Option Addr) (n : Nat) : Option (List Value) := if n = 0 then some [] else a.bind fun p => rdN h p n

def semApp (b bytes : Nat) (z : List Value) (a : Option Addr) (l c : Nat) (a2 : Option Addr) (l2 : Nat) (h : AH) : Option Step :=
  if l2 = 0 then (if l ≤ c then some (.slice a l c, none, h) else none) else
  (srcA h a2 (l2 * z.length)).bind fun xs =>
  if (l + l2) * bytes ≤ 2 ^ 40 ∧ l + l2 ≤ 2 ^ 40 then
    if c = 0 then (if l = 0 then some (.slice (some ⟨b, 0, none⟩) l2 l2, some (.row z.length xs), h) else none)
    else match a with
      | none => none
      | some p => match h[p.block]? with
        | some (.row s cs) => if s = z.length ∧ p.off = 0 ∧ p.spot = none ∧ xs.all oneV = true then
            if l + l2 ≤ c then (wr h (p.add (l * s)) xs).map fun h' => (.slice (some p) (l + l2) c, none, h')
            else if cs.length = l * s then some (.slice (some ⟨b, 0, none⟩) (l + l2) (l + l2), some (.row s (cs ++ xs)), h.set p.block .dead) else none
          else none
        | _ => none
  else none

def semCopy (esz : Nat) (a : Option Addr) (l : Nat) (a2 : Option Addr) (l2 : Nat) (h : AH) : Option Step :=
  if Nat.min l2 l = 0 then some (.int .i64 0, none, h) else
  (srcA h a2 (Nat.min l2 l * esz)).bind fun xs => a.bind fun p => (wr h p xs).map fun h' => (.int .i64 (Nat.min l2 l), none, h')

def semRange (b : Nat) (u : Value) (h : AH) : Option Step :=
  match u with
  | .map none => some (.pointer (some ⟨b, 0, none⟩), some (.iter none 0 []), h)
  | .map (some r) => match h[r]? with
    | some (.map es) => some (.pointer (some ⟨b, 0, none⟩), some (.iter (some r) es.length []), h)
    | _ => none
  | _ => none

def semEntry (u : Value) (h : AH) : Option Step :=
  match u with
  | .pointer (some a) => if a.off = 0 ∧ a.spot = none then
      match h[a.block]? with
      | some (.iter (some m) n seen) => match h[m]?, seen.getLast? with
        | some (.map es), some s => if es.length = n then es[s]?.map fun kv => (.tuple #[kv.1, kv.2], none, h) else none
        | _, _ => none
      | _ => none
    else none
  | _ => none

/-- All steps that are no calls. -/
def semE (b : Nat) (opc : Opc) (vs : List Value) (h : AH) : Option Step :=
  match opc, vs with
  | .app bytes z, [.slice a l c, .slice a2 l2 _] => semApp b bytes z a l c a2 l2 h
  | .copy esz, [.slice a l _, .slice a2 l2 _] => semCopy esz a l a2 l2 h
  | .rangeM, [u] => semRange b u h
  | .entry, [u] => semEntry u h
  | _, _ => sem b opc vs h

section
variable {FC : Nat → Code → Option AC} {P : Program} {w0 : Fr} {w w' : World} {ι : Inj} {h : AH} {o : Oper} {opc : Opc} {xs : List Operand} {vs : List Value} {ρ : Operand → Value} {b : Nat} {v : Value} {nb : Option Blk} {h' : AH}

theorem slice_inv {a : Option Addr} {l c : Nat} {u : Value} (hv : VR ι (.slice a l c) u) : ∃ a' c', u = .slice a' l c' ∧ c ≤ c' ∧ (c = 0 → c' = 0) ∧ (a = none → a' = none) ∧
    (∀ p, a = some p → ∃ p', a' = some p' ∧ (0 < l ∨ 0 < c → AdR ι p p') ∧ (0 < c → ∀ b' o K, ι p.block = some (b', o, some K) → p.off = 0 → c' ≤ K)) := by
  cases hv with
  | snil => exact ⟨none, c, rfl, Nat.le_refl _, id, (fun _ => rfl), (fun p e => by cases e)⟩
  | slice k1 k2 k3 k4 => exact ⟨_, _, rfl, k1, k2, (fun e => by cases e), (fun p e => by cases e; exact ⟨_, rfl, k3, k4⟩)⟩

/-- The world with another count of draws. -/
abbrev dr (w : World) (d : Nat) : World := { w with drawn := d }

theorem HR.dr (hr : HR FC w0 ι h w) (d : Nat) : HR FC w0 ι h (dr w d) where
  below := hr.below.trans ⟨rfl, rfl, rfl, Nat.le_refl _, fun _ _ => rfl⟩
  dom := hr.dom
  blk := hr.blk
  inj := hr.inj
  mkd := hr.mkd

/-- The source's cells. -/
theorem src_run (hr : HR FC w0 ι h w) {a a' : Option Addr} {l c c' n : Nat} {esz : Nat} {xs : List Value} (hx : srcA h a (n * esz) = some xs) (hn : n ≤ l)
    (hsome : ∀ p, a = some p → ∃ p', a' = some p' ∧ (0 < l ∨ 0 < c → AdR ι p p')) (hno : a = none → a' = none) :
    ∃ xs' : List Value, CR ι xs xs' ∧ xs'.length = n * esz ∧ ∀ d, (Builtin.firstCells esz n (.slice a' l c')).run P (dr w d) = .ok xs'.toArray (dr w d) := by
  unfold srcA at hx
  split at hx
  · rename_i h0
    cases hx
    refine ⟨[], ⟨rfl, fun i v v' e => by simp at e⟩, by simp [h0], fun d => ?_⟩
    cases a' with
    | none => rfl
    | some p => simp [Builtin.firstCells, h0, loadCells, loadCellsFrom]
  · rename_i h0
    cases a with
    | none => simp at hx
    | some p =>
      simp only [Option.bind_some] at hx
      obtain ⟨p', rfl, hp⟩ := hsome p rfl
      have hl : 0 < l := by
        cases n with
        | zero => simp at h0
        | succ n => omega
      obtain ⟨cs', c1, c2, c3⟩ := hr.cellsN (hp (.inl hl)) hx
      refine ⟨cs', c1, c2, fun d => ?_⟩
      have := run_loadCells_list (P := P) (dr w d) p' cs' c3
      rw [c2] at this
      simpa [Builtin.firstCells] using this

/-- The array grows anew. -/
theorem grow_run {t t2 e e2 ty : TypeId} {i : TypeInfo} {zu : Value} (hu : P.underlying t = some (.slice e)) (hu2 : P.underlying t2 = some (.slice e2)) (hi : P.info? e = some i) (hz : i.zero = some zu)
    {l l2 c' c2' : Nat} {s' a2' : Option Addr} {olds us' : List Value} (hlt : c' < l + l2) (hb1 : (l + l2) * i.bytes ≤ 2 ^ 40) (hb2 : l + l2 ≤ 2 ^ 40)
    (hof : ∀ d, (Builtin.firstCells i.size l (.slice s' l c')).run P (dr w d) = .ok olds.toArray (dr w d)) (hqf : ∀ d, (Builtin.firstCells i.size l2 (.slice a2' l2 c2')).run P (dr w d) = .ok us'.toArray (dr w d)) :
    ∃ newCap, l + l2 ≤ newCap ∧ (Builtin.append_ #[t, t2] ty #[.slice s' l c', .slice a2' l2 c2']).run P w =
      .ok (.slice (some ⟨w.heap.size, 0, none⟩) (l + l2) newCap) { dr w (w.drawn + 1) with heap := w.heap.push (.cells (olds.toArray ++ (us'.toArray ++ Builtin.zeroCells zu.cells (newCap - (l + l2)))) e) } := by
  refine ⟨(Question.appendCap (l + l2) c' e).cut (w.tape w.drawn (.appendCap (l + l2) c' e)), by simp only [Question.cut]; omega, ?_⟩
  have hn1 : ¬ (l + l2 ≤ c') := by omega
  have hn2 : ¬ (((l + l2 : Nat) : Int) > IntKind.i64.max ∧ (i.bytes = 0)) := by
    intro ⟨hh, _⟩
    have : IntKind.i64.max = 9223372036854775807 := by simp [IntKind.max, IntKind.signed, IntKind.bits]
    rw [this] at hh
    omega
  have hn3 : ¬ (Builtin.nextslicecap (l + l2) c' * i.bytes > 2 ^ 48) := by
    have := growslice_fits (need := l + l2) (old := c') (bytes := i.bytes) hlt (by omega)
    omega
  have hnf : (Question.appendCap (l + l2) c' e).forced = false := rfl
  have hof' : (Builtin.firstCells i.size l (.slice s' l c')).run P w.drew = .ok olds.toArray w.drew := hof (w.drawn + 1)
  have hqf' : (Builtin.firstCells i.size l2 (.slice a2' l2 c2')).run P w.drew = .ok us'.toArray w.drew := hqf (w.drawn + 1)
  have hn4 : ¬ (9223372036854775807 < (l : Int) + (l2 : Int) ∧ i.bytes = 0) := by omega
  simp [Builtin.append_, run_underlying hu, run_underlying hu2, sizeOf, typeInfo, hi, Builtin.lenOf, hn1, hn3, hn4, hnf, hof', hqf', zeroValue, hz, newRow]
  rfl

/-- An abstract block's contents go on under another number. -/
theorem HR.move (hr : HR FC w0 ι h w) {old : Nat} {k : Blk} {y : Nat × Nat × Option Nat} (hk : h[old]? = some k) (hy : ι old = some y) (hb : ι b = none) {H : AH} (hH : H[b]? = some k)
    (hdom : ∀ c x, ι c = some x → c < H.length) (hsub : ∀ (c : Nat) (l : Blk), H[c]? = some l → l.live = true → ι c ≠ none → c ≠ old ∧ h[c]? = some l) : HR FC w0 (ι.upd b y) H w where
  below := hr.below
  dom c z e := by
    by_cases hc : c = b
    · subst hc
      rw [Inj.upd_same] at e; cases e
      exact ⟨(List.getElem?_eq_some_iff.1 hH).1, (hr.dom old y hy).2⟩
    · rw [Inj.upd_ne _ _ hc] at e
      exact ⟨hdom c z e, (hr.dom c z e).2⟩
  blk c l z e i := by
    by_cases hc : c = b
    · subst hc
      rw [Inj.upd_same] at i; cases i
      rw [hH] at e; cases e
      exact (hr.blk old k y hk hy).mono (Inj.upd_le _ hb)
    · rw [Inj.upd_ne _ _ hc] at i
      by_cases hl : l.live = true
      · exact (hr.blk c l z (hsub c l e hl (by rw [i]; simp)).2 i).mono (Inj.upd_le _ hb)
      · cases l <;> simp [Blk.live] at hl
        trivial
  inj c d k1 l y1 z ic id hyz ek el hne hrw := by
    by_cases hl : l.live = true
    · have hk1 : k1.live = true := by cases k1 <;> simp_all [Blk.live, Blk.rw]
      by_cases hc : c = b
      · subst hc
        rw [Inj.upd_same] at ic; cases ic
        rw [Inj.upd_ne _ _ (Ne.symm hne)] at id
        rw [hH] at ek; cases ek
        obtain ⟨n1, n2⟩ := hsub d l el hl (by rw [id]; simp)
        exact hr.inj old d k l y z hy id hyz hk n2 (Ne.symm n1) hrw
      · rw [Inj.upd_ne _ _ hc] at ic
        obtain ⟨m1, m2⟩ := hsub c k1 ek hk1 (by rw [ic]; simp)
        by_cases hd : d = b
        · subst hd
          rw [Inj.upd_same] at id; cases id
          rw [hH] at el; cases el
          exact hr.inj c old k1 k y1 y ic hy hyz m2 hk m1 hrw
        · rw [Inj.upd_ne _ _ hd] at id
          exact hr.inj c d k1 l y1 z ic id hyz m2 (hsub d l el hl (by rw [id]; simp)).2 hne hrw
    · simpa using hl
  mkd k hk := by
    obtain ⟨h1, h2⟩ := hr.mkd k hk
    refine ⟨h1, fun c z e => ?_⟩
    by_cases hc : c = b
    · subst hc
      rw [Inj.upd_same] at e; cases e
      exact h2 old y hy
    · rw [Inj.upd_ne _ _ hc] at e
      exact h2 c z e

theorem app_sound {c : Call} {t t2 e e2 : TypeId} {i : TypeInfo} {z : List Value} {x y : Operand} (ho : o.op = .call c) (hcl : c.callee = .builtin .append) (ht : c.argTypes = #[t, t2]) (hargs : c.args = #[x, y])
    (hu : P.underlying t = some (.slice e)) (hu2 : P.underlying t2 = some (.slice e2)) (hi : P.info? e = some i) (hz : zeroC P e = some z)
    {a a2 : Option Addr} {l cp l2 c2 : Nat} (h0 : VR ι (.slice a l cp) (ρ x)) (h1 : VR ι (.slice a2 l2 c2) (ρ y)) (hr : HR FC w0 ι h w)
    (hs : semApp b i.bytes z a l cp a2 l2 h = some (v, nb, h')) (hb : nb.isSome = true → ι b = none) : Runs FC P w0 w ι ρ o b v nb h' := by
  obtain ⟨i', zu, g1, g2, g3, g4, g5⟩ := zeroC_spec hz
  rw [hi] at g1; cases g1
  have hzl : z.length = i.size := by rw [← g3, Array.length_toList, g5]
  obtain ⟨a', c', e0, e1, e2', e3, e4⟩ := slice_inv h0
  obtain ⟨a2', c2', f0, f1, f2, f3, f4⟩ := slice_inv h1
  have hexec : ∀ u W, (Builtin.append_ #[t, t2] o.type #[.slice a' l c', .slice a2' l2 c2']).run P w = .ok u W → (execOp ρ o).run P w = .ok (.value u) W := fun u W hrun => by
    simp only [execOp, ho, resolve, hcl, hargs, ht, Sem.run_bind, Sem.run_pure, Result.andThen_ok, invoke, builtin, List.map_toArray, List.map_cons, List.map_nil, e0, f0, hrun]
  unfold semApp at hs
  split at hs
  · rename_i hl2
    subst hl2
    split at hs
    · rename_i hlc
      simp only [Option.some.injEq, Prod.mk.injEq] at hs
      obtain ⟨rfl, rfl, rfl⟩ := hs
      refine Runs.val hr (u := .slice a' l c') (e0 ▸ h0) (hexec _ _ ?_)
      have hfc : (Builtin.firstCells i.size 0 (.slice a2' 0 c2')).run P w = .ok #[] w := by cases a2' <;> simp [Builtin.firstCells, loadCells, loadCellsFrom]
      cases a' <;> simp [Builtin.append_, run_underlying hu, run_underlying hu2, sizeOf, typeInfo, hi, Builtin.lenOf, show l ≤ c' by omega, hfc, storeCells]
    · cases hs
  · rename_i hl2
    cases hx : srcA h a2 (l2 * z.length) with
    | none => simp [hx] at hs
    | some us =>
      simp only [hx, Option.bind_some] at hs
      obtain ⟨us', q1, q2, q3⟩ := src_run (P := P) (c' := c2') hr hx (Nat.le_refl l2) (fun p hp => let ⟨p', a, b, _⟩ := f4 p hp; ⟨p', a, b⟩) f3
      rw [hzl] at q2 q3
      split at hs
      · rename_i hbd
        obtain ⟨hbd1, hbd2⟩ := hbd
        have hzc : ∀ n, (Builtin.zeroCells zu.cells n).size = n * i.size := fun n => by rw [size_zeroCells, g5]
        split at hs
        · rename_i hc0
          subst hc0
          obtain rfl := e2' rfl
          split at hs
          · rename_i hl0
            subst hl0
            simp only [Option.some.injEq, Prod.mk.injEq] at hs
            obtain ⟨rfl, rfl, rfl⟩ := hs
            have hof : ∀ d, (Builtin.firstCells i.size 0 (.slice a' 0 0)).run P (dr w d) = .ok ([] : List Value).toArray (dr w d) := fun d => by cases a' <;> simp [Builtin.firstCells, loadCells, loadCellsFrom]
            obtain ⟨K, k1, k2⟩ := grow_run (P := P) (w := w) (ty := o.type) hu hu2 hi g2 (l := 0) (by omega) hbd1 hbd2 hof q3
            simp only [Nat.zero_add] at k1 k2
            refine ⟨_, _, .inl (hexec _ _ k2), Gives.lay (K := some K) (hr.dr (w.drawn + 1)) (hb rfl) (slice_new ι b _ l2 l2 K K k1 (by omega) (Nat.le_refl _)) (row_new (hr.dr (w.drawn + 1)) ?_ fun j u hu => ?_)⟩
            · simp only [Array.size_append, List.size_toArray, List.length_nil, hzc, q2, Nat.zero_add, hzl]
              rw [← Nat.add_mul]; congr 1; omega
            · obtain ⟨u', p1, p2⟩ := q1.ex j u hu
              refine ⟨u', ?_, p2⟩
              have hj := (List.getElem?_eq_some_iff.1 p1).1
              simp only [Array.empty_append]
              rw [Array.getElem?_append_left (by simpa using hj)]
              simpa using p1
          · cases hs
        · rename_i hc0
          cases a with
          | none => simp at hs
          | some p =>
            simp only at hs
            split at hs
            · rename_i s cs hcell
              split at hs
              · rename_i hcond
                obtain ⟨rfl, hp0, hps, hone⟩ := hcond
                obtain ⟨p', rfl, e5, e6⟩ := e4 p rfl
                have e5' := e5 (.inr (by omega))
                obtain ⟨n1, n2, of, K0, n3, n4⟩ := e5'
                obtain ⟨m0, hB, C, ec, K, hK, m1, mS, m2⟩ := hr.blk _ _ _ hcell n3
                simp only at m0 hK
                subst m0; subst hK
                have hcK := e6 (by omega) _ _ K n3 hp0
                have hp'0 : p'.off = 0 := by omega
                have ad : AdR ι p p' := ⟨n1, n2, 0, some K, n3, n4⟩
                split at hs
                · rename_i hfit
                  simp only [Option.map_eq_some_iff, Prod.mk.injEq] at hs
                  obtain ⟨h1', hw, rfl, rfl, rfl⟩ := hs
                  obtain ⟨W, s1, s2⟩ := store_cells (P := P) hr (ad.add (l * z.length)) q1 hw
                  refine ⟨.slice (some p') (l + l2) c', W, .inl (hexec _ _ ?_), Gives.same s2 (.slice e1 e2' (fun _ => ad) e6)⟩
                  have hq := q3 w.drawn
                  rw [hzl] at s1
                  simp [Builtin.append_, run_underlying hu, run_underlying hu2, sizeOf, typeInfo, hi, Builtin.lenOf, show l + l2 ≤ c' by omega, show (Builtin.firstCells i.size l2 (.slice a2' l2 c2')).run P w = .ok us'.toArray w from hq, s1]
                · rename_i hnfit
                  split at hs
                  · rename_i hcl
                    simp only [Option.some.injEq, Prod.mk.injEq] at hs
                    obtain ⟨rfl, rfl, rfl⟩ := hs
                    have hCs : cs.length ≤ C.size := by
                      cases hcs : cs.length with
                      | zero => omega
                      | succ m =>
                        obtain ⟨v', hv', _⟩ := m2 m _ (List.getElem?_eq_getElem (by omega))
                        have := (Array.getElem?_eq_some_iff.1 hv').1
                        omega
                    by_cases hroom : l + l2 ≤ c'
                    · -- there is room
                      obtain ⟨b', f', s'⟩ := p'
                      simp only at n2 n3 n4 hp'0 m1 hB
                      subst n2; subst hp'0
                      have honeu : ∀ u ∈ us', u.oneCell' = true := fun u hu => by
                        obtain ⟨j, hj⟩ := List.getElem?_of_mem hu
                        have hlt : j < us.length := by rw [q1.1]; exact (List.getElem?_eq_some_iff.1 hj).1
                        exact oneV_of (q1.2 j _ u (List.getElem?_eq_getElem hlt) hj) (List.all_eq_true.1 hone _ (List.getElem_mem hlt))
                      have hroomC : (l + l2) * z.length ≤ C.size := by rw [mS]; exact Nat.mul_le_mul_right _ (by omega)
                      have hsum : l * z.length + l2 * z.length = (l + l2) * z.length := by rw [Nat.add_mul]
                      have hst := run_storeCells_at P b' (l * z.length) ec us' 0 C w m1 (by rw [q2, ← hzl]; omega) honeu
                      simp only [Nat.add_zero] at hst
                      have hq := q3 w.drawn
                      have hrun : (Builtin.append_ #[t, t2] o.type #[.slice (some ⟨b', 0, none⟩) l c', .slice a2' l2 c2']).run P w = .ok (.slice (some ⟨b', 0, none⟩) (l + l2) c') (w.setRow b' (C.toList.take (l * z.length) ++ us' ++ C.toList.drop (l * z.length + us'.length)).toArray) := by
                        rw [hzl] at hst ⊢
                        simp [Builtin.append_, run_underlying hu, run_underlying hu2, sizeOf, typeInfo, hi, Builtin.lenOf, hroom, show (Builtin.firstCells i.size l2 (.slice a2' l2 c2')).run P w = .ok us'.toArray w from hq, Addr.add_lit, hst]
                      have hD : (C.toList.take (l * z.length) ++ us' ++ C.toList.drop (l * z.length + us'.length)) = spl C.toList (l * z.length) us' := by
                        rw [spl_eq _ _ _ (by have e1 : C.toList.length = C.size := Array.length_toList; rw [q2, ← hzl]; omega)]
                      have hr2 : HR FC w0 ι (h.set p.block (.row z.length (cs ++ us))) (w.setRow b' (C.toList.take (l * z.length) ++ us' ++ C.toList.drop (l * z.length + us'.length)).toArray) := by
                        refine HR.set hr hcell rfl rfl n3 hB (x := .cells (C.toList.take (l * z.length) ++ us' ++ C.toList.drop (l * z.length + us'.length)).toArray ec (0, 0)) ?_ rfl rfl rfl ?_
                        · simp only [World.setRow]
                          apply Array.ext_getElem?
                          intro j
                          rw [Array.getElem?_modify, Array.getElem?_setIfInBounds]
                          by_cases hj : b' = j
                          · subst hj
                            have hlt : b' < w.heap.size := (Array.getElem?_eq_some_iff.1 m1).1
                            have hg : w.heap[b'] = .cells C ec (0, 0) := (Array.getElem?_eq_some_iff.1 m1).2
                            simp [hlt, hg]
                          · simp [hj]
                        · refine ⟨rfl, hB, _, ec, K, rfl, rfl, ?_, fun j u hu => ?_⟩
                          · rw [hD, List.size_toArray, spl_length, Array.length_toList]; exact mS
                          · have hlC : C.toList.length = C.size := Array.length_toList
                            rw [List.getElem?_toArray]
                            by_cases hj : j < cs.length
                            · rw [List.getElem?_append_left hj] at hu
                              obtain ⟨u', p1, p2⟩ := m2 j u hu
                              refine ⟨u', ?_, p2⟩
                              rw [List.append_assoc, List.getElem?_append_left (by rw [List.length_take]; omega), List.getElem?_take, if_pos (by omega)]
                              simpa using p1
                            · rw [List.getElem?_append_right (by omega)] at hu
                              obtain ⟨u', p1, p2⟩ := q1.ex _ u hu
                              refine ⟨u', ?_, p2⟩
                              have hjl := (List.getElem?_eq_some_iff.1 p1).1
                              rw [List.append_assoc, List.getElem?_append_right (by rw [List.length_take]; omega), List.length_take, Nat.min_eq_left (by omega), List.getElem?_append_left (by omega), ← hcl]
                              exact p1
                      have hplt : p.block < h.length := (List.getElem?_eq_some_iff.1 hcell).1
                      refine ⟨_, _, .inl (hexec _ _ hrun), ι.upd b (b', 0, some K), .inr ⟨rfl, _, rfl⟩, .slice (by omega) (by omega) (fun _ => ⟨rfl, rfl, 0, some K, by simp [Inj.upd], rfl⟩) (fun _ b1 o1 K1 hK1 _ => ?_), fun H d1 d2 d3 => ?_⟩
                      · simp [Inj.upd] at hK1; omega
                      · refine HR.move hr2 (List.getElem?_set_self hplt) n3 (hb rfl) (d3 _ rfl) d1 fun c1 l1 x1 x2 x3 => ?_
                        have hh := d2 c1 l1 x1 x2 x3
                        by_cases hcp : p.block = c1
                        · subst hcp
                          rw [List.getElem?_set_self hplt] at hh
                          cases hh
                          simp [Blk.live] at x2
                        · rw [List.getElem?_set_ne hcp] at hh
                          exact ⟨Ne.symm hcp, by rw [List.getElem?_set_ne hcp]; exact hh⟩
                    · -- a new array
                      have hrd : rdN h p (l * z.length) = some cs := by
                        simp only [rdN, n1, if_true, Pw.rdc, hcell, Option.bind_some, hp0, List.drop_zero]
                        rw [if_pos (by omega), List.take_of_length_le (by omega)]
                      obtain ⟨olds, o1, o2, o3⟩ := hr.cellsN ad hrd
                      have hof : ∀ d, (Builtin.firstCells i.size l (.slice (some p') l c')).run P (dr w d) = .ok olds.toArray (dr w d) := fun d => by
                        have := run_loadCells_list (P := P) (dr w d) p' olds o3
                        rw [o2, hzl] at this
                        simpa [Builtin.firstCells] using this
                      obtain ⟨K', k1, k2⟩ := grow_run (P := P) (w := w) (ty := o.type) hu hu2 hi g2 (by omega) hbd1 hbd2 hof q3
                      have hr2 : HR FC w0 ι (h.set p.block .dead) (dr w (w.drawn + 1)) := by
                        refine (hr.dr (w.drawn + 1)).weaken (fun c1 x1 e1 => by have := (hr.dom c1 x1 e1).1; simpa using this) fun c1 l1 x1 hh hl _ => ?_
                        by_cases hcp : p.block = c1
                        · subst hcp
                          rw [List.getElem?_set_self (List.getElem?_eq_some_iff.1 hcell).1] at hh
                          cases hh
                          simp [Blk.live] at hl
                        · rwa [List.getElem?_set_ne hcp] at hh
                      refine ⟨_, _, .inl (hexec _ _ k2), Gives.lay (K := some K') hr2 (hb rfl) (slice_new ι b _ (l + l2) (l + l2) K' K' k1 (by omega) (Nat.le_refl _)) (row_new hr2 ?_ fun j u hu => ?_)⟩
                      · simp only [Array.size_append, List.size_toArray, o2, hzc, q2, hzl]
                        rw [← Nat.add_mul, ← Nat.add_mul]; congr 1; omega
                      · obtain ⟨u', p1, p2⟩ := (o1.app q1).ex j u hu
                        refine ⟨u', ?_, p2⟩
                        have hj := (List.getElem?_eq_some_iff.1 p1).1
                        rw [← Array.append_assoc, Array.getElem?_append_left (by simpa using hj)]
                        simpa using p1
                  · cases hs
              · cases hs
            · cases hs
      · cases hs

theorem copy_sound {c : Call} {t e : TypeId} {n : Nat} {x y : Operand} (ho : o.op = .call c) (hcl : c.callee = .builtin .copy) (ht : c.argTypes[0]? = some t) (hargs : c.args = #[x, y])
    (hu : P.underlying t = some (.slice e)) (hn : sizeC P e = some n)
    {a a2 : Option Addr} {l cp l2 c2 : Nat} (h0 : VR ι (.slice a l cp) (ρ x)) (h1 : VR ι (.slice a2 l2 c2) (ρ y)) (hr : HR FC w0 ι h w)
    (hs : semCopy n a l a2 l2 h = some (v, nb, h')) : Runs FC P w0 w ι ρ o b v nb h' := by
  obtain ⟨a', c', e0, e1, e2', e3, e4⟩ := slice_inv h0
  obtain ⟨a2', c2', f0, f1, f2, f3, f4⟩ := slice_inv h1
  have hexec : ∀ u W, (Builtin.copy_ c.argTypes o.type #[.slice a' l c', .slice a2' l2 c2']).run P w = .ok u W → (execOp ρ o).run P w = .ok (.value u) W := fun u W hrun => by
    simp only [execOp, ho, resolve, hcl, hargs, Sem.run_bind, Sem.run_pure, Result.andThen_ok, invoke, builtin, List.map_toArray, List.map_cons, List.map_nil, e0, f0, hrun]
  unfold semCopy at hs
  split at hs
  · rename_i hz
    simp only [Option.some.injEq, Prod.mk.injEq] at hs
    obtain ⟨rfl, rfl, rfl⟩ := hs
    refine Runs.val hr (.int _ _) (hexec _ _ ?_)
    have hfc : (Builtin.firstCells n 0 (.slice a2' l2 c2')).run P w = .ok #[] w := by cases a2' <;> simp [Builtin.firstCells, loadCells, loadCellsFrom]
    cases a' <;> simp [Builtin.copy_, ht, run_underlying hu, Builtin.lenOf, hz, run_sizeOf hn, hfc, storeCells, goInt]
  · rename_i hz
    simp only [Option.bind_eq_some_iff, Option.map_eq_some_iff, Prod.mk.injEq] at hs
    obtain ⟨us, hx, p, rfl, h1', hw, rfl, rfl, rfl⟩ := hs
    obtain ⟨us', q1, q2, q3⟩ := src_run (P := P) (c' := c2') hr hx (Nat.min_le_left l2 l) (fun p hp => let ⟨p', a, b, _⟩ := f4 p hp; ⟨p', a, b⟩) f3
    obtain ⟨p', rfl, e5, e6⟩ := e4 p rfl
    have hl : 0 < l := by
      cases l with
      | zero => simp at hz
      | succ l => omega
    obtain ⟨W, s1, s2⟩ := store_cells (P := P) hr (e5 (.inl hl)) q1 hw
    refine ⟨.int .i64 (Nat.min l2 l), W, .inl (hexec _ _ ?_), Gives.same s2 (.int _ _)⟩
    have hq : (Builtin.firstCells n (Nat.min l2 l) (.slice a2' l2 c2')).run P w = .ok us'.toArray w := q3 w.drawn
    simp only [Builtin.copy_, List.getElem?_toArray, List.getElem?_cons_zero, List.getElem?_cons_succ, ht, Sem.run_bind, run_underlying hu, Result.andThen_ok, Builtin.lenOf, Sem.run_pure, run_sizeOf hn, hq, s1, goInt]

theorem range_sound {t k e : TypeId} {x : Operand} {u : Value} (ho : o.op = .range t x) (hu : P.underlying t = some (.map k e)) (h0 : VR ι u (ρ x)) (hr : HR FC w0 ι h w)
    (hs : semRange b u h = some (v, nb, h')) (hb : nb.isSome = true → ι b = none) : Runs FC P w0 w ι ρ o b v nb h' := by
  unfold semRange at hs
  split at hs
  · cases hs
    have hx : ρ x = .map none := by generalize ρ x = y at h0; cases h0; rfl
    refine Runs.new hr (hb rfl) (ptr_new ι b _) (x := .mapIter none 0 #[] 0) ⟨rfl, hr.below.size, none, (fun r e => by cases e), fun _ => rfl, rfl⟩ ?_
    simp only [execOp, ho, hx, Sem.run_bind, run_range_nilMap w t k e hu, Result.andThen_ok, Sem.run_pure]
    rfl
  · rename_i r
    split at hs
    · rename_i es hes
      cases hs
      have hx : ∃ r', ρ x = .map (some r') ∧ ι r = some (r', 0, none) := by generalize ρ x = y at h0; cases h0; exact ⟨_, rfl, ‹_›⟩
      obtain ⟨r', hx, hi⟩ := hx
      obtain ⟨_, _, E, he, hsz, _⟩ := hr.blk r _ _ hes hi
      refine Runs.new hr (hb rfl) (ptr_new ι b _) (x := .mapIter (some r') es.length #[] es.length) ⟨rfl, hr.below.size, some r', (fun q e => by cases e; exact ⟨r', hi, rfl⟩), (fun e => by cases e), rfl⟩ ?_
      simp only [execOp, ho, hx, Sem.run_bind, run_range_map w t k e r' E E.size hu he, Result.andThen_ok, Sem.run_pure, hsz]
      rfl
    · cases hs
  · cases hs

/-- An iterator's block. -/
theorem iter_at (hr : HR FC w0 ι h w) {a : Addr} {u : Value} (h0 : VR ι (.pointer (some a)) u) (ha : a.off = 0 ∧ a.spot = none) {m : Option Nat} {n : Nat} {seen : List Nat} (hh : h[a.block]? = some (.iter m n seen)) :
    ∃ a' m', u = .pointer (some ⟨a', 0, none⟩) ∧ ι a.block = some (a', 0, none) ∧ w.heap[a']? = some (.mapIter m' n seen.toArray n) ∧ (∀ r, m = some r → ∃ r', ι r = some (r', 0, none) ∧ m' = some r') ∧ (m = none → m' = none) := by
  cases h0 with
  | @ptr _ a' had =>
    obtain ⟨q1, q2, o, K, q3, q4⟩ := had
    obtain ⟨e1, e2, m', e3, e4, e5⟩ := hr.blk _ _ _ hh q3
    simp only [Prod.mk.injEq] at e1
    obtain ⟨rfl, rfl⟩ := e1
    refine ⟨a'.block, m', ?_, q3, e5, e3, e4⟩
    obtain ⟨b1, o1, s1⟩ := a'
    simp only at q2 q4
    rw [q2, q4, ha.1]

theorem entry_sound {x : Operand} {u : Value} (ho : o.op = .entry x) (h0 : VR ι u (ρ x)) (hr : HR FC w0 ι h w)
    (hs : semEntry u h = some (v, nb, h')) : Runs FC P w0 w ι ρ o b v nb h' := by
  unfold semEntry at hs
  split at hs
  · rename_i a
    split at hs
    · rename_i ha
      split at hs
      · rename_i m n seen hh
        split at hs
        · rename_i es s hes hlast
          split at hs
          · rename_i hn
            simp only [Option.map_eq_some_iff, Prod.mk.injEq] at hs
            obtain ⟨kv, hkv, rfl, rfl, rfl⟩ := hs
            obtain ⟨a', m', e1, e2, e3, e4, _⟩ := iter_at hr h0 ha hh
            obtain ⟨r', f1, rfl⟩ := e4 m rfl
            obtain ⟨_, _, E, g1, g2, g3⟩ := hr.blk m _ _ hes f1
            have hsl : s < es.length := (List.getElem?_eq_some_iff.1 hkv).1
            have hse : s < E.size := by omega
            obtain ⟨k1, k2, k3⟩ := g3 s E[s] kv.1 kv.2 (Array.getElem?_eq_getElem hse) hkv
            refine Runs.val hr (u := .tuple #[E[s].key, E[s].val]) (.tuple rfl fun i x x' p p' => ?_) ?_
            · match i with
              | 0 => simp at p p'; subst p; subst p'; exact k2
              | 1 => simp at p p'; subst p; subst p'; exact k3
              | i + 2 => simp at p
            · have hnd : (E.toList.map (·.born)).Nodup := by
                rw [List.nodup_iff_pairwise_ne, List.pairwise_iff_getElem]
                intro i j hi hj hij
                simp only [List.getElem_map, Array.getElem_toList]
                have hi' : i < E.size := by simpa using hi
                have hj' : j < E.size := by simpa using hj
                have b1 := (g3 i E[i] es[i].1 es[i].2 (Array.getElem?_eq_getElem hi') (List.getElem?_eq_getElem (by omega))).1
                have b2 := (g3 j E[j] es[j].1 es[j].2 (Array.getElem?_eq_getElem hj') (List.getElem?_eq_getElem (by omega))).1
                rw [b1, b2]; omega
              have hf : E.find? (·.born == s) = some E[s] := by
                have := find_born E[s] E.toList hnd (by simp)
                rw [k1] at this
                rw [← Array.find?_toList]; exact this
              have hbk : seen.toArray.back? = some s := by simpa using hlast
              simp only [execOp, ho, e1, Instr.entry, getObj, Sem.run_bind, Sem.run, e3, g1, Result.andThen, hbk, hf]
              rw [show E.size = n by omega]
              simp [Sem.run]
          · cases hs
        · cases hs
      · cases hs
    · cases hs
  · cases hs

theorem flat_call {op : Op} (hf : flatOp P op = some (opc, xs)) (h : (∃ by_ z, opc = .app by_ z) ∨ ∃ n, opc = .copy n) : ∃ c, op = .call c := by
  cases op <;> simp only [flatOp, reduceCtorEq] at hf
  case call c => exact ⟨c, rfl⟩
  all_goals
    exfalso
    rcases h with ⟨by_, z, rfl⟩ | ⟨n, rfl⟩ <;> ((repeat' split at hf) <;> first
      | (cases hf; done)
      | (rename_i heq; cases heq; done)
      | (simp [Option.bind_eq_some_iff] at hf; done)
      | (simp only [Option.bind_eq_bind, Option.bind_eq_some_iff] at hf; obtain ⟨_, _, _, _, _, _, hf⟩ := hf; (repeat' split at hf) <;> first | (cases hf; done) | (simp at hf; done)))

theorem arr_two {α : Type} {a : Array α} (h : a.size = 2) : ∃ x y, a = #[x, y] := by
  obtain ⟨l⟩ := a
  match l, h with
  | [x, y], _ => exact ⟨x, y, rfl⟩

theorem flat_app {c : Call} {bytes : Nat} {z : List Value} (hf : flatCall P c c.argTypes = some (.app bytes z, xs)) :
    ∃ t t2 e e2 i x y, c.callee = .builtin .append ∧ c.argTypes = #[t, t2] ∧ c.args = #[x, y] ∧ xs = [x, y] ∧ P.underlying t = some (.slice e) ∧ P.underlying t2 = some (.slice e2) ∧ P.info? e = some i ∧ zeroC P e = some z ∧ bytes = i.bytes := by
  unfold flatCall at hf
  split at hf
  case h_5 hcl =>
    simp only [Option.bind_eq_bind, Option.bind_eq_some_iff] at hf
    obtain ⟨t, ht, t2, ht2, hf⟩ := hf
    split at hf
    · rename_i e e2 hu hu2
      simp only [Option.bind_eq_some_iff] at hf
      obtain ⟨i, hi, z', hz, hf⟩ := hf
      split at hf
      · rename_i hsz
        simp only [Option.some.injEq, Prod.mk.injEq, Opc.app.injEq] at hf
        obtain ⟨⟨rfl, rfl⟩, rfl⟩ := hf
        simp only [Bool.and_eq_true, decide_eq_true_eq] at hsz
        obtain ⟨x, y, hxy⟩ := arr_two hsz.1
        obtain ⟨p, q, hpq⟩ := arr_two hsz.2
        rw [hpq] at ht ht2
        simp only [List.getElem?_toArray, List.getElem?_cons_zero, List.getElem?_cons_succ, Option.some.injEq] at ht ht2
        subst ht; subst ht2
        exact ⟨p, q, e, e2, i, x, y, hcl, hpq, hxy, by rw [hxy], hu, hu2, hi, hz, rfl⟩
      · cases hf
    · cases hf
  all_goals
    exfalso
    (repeat' split at hf) <;> simp [Option.bind_eq_some_iff] at hf
  all_goals
    obtain ⟨t, _, hf⟩ := hf
    (repeat' split at hf) <;> simp [Option.bind_eq_some_iff] at hf

theorem flat_copy {c : Call} {n : Nat} (hf : flatCall P c c.argTypes = some (.copy n, xs)) :
    ∃ t e x y, c.callee = .builtin .copy ∧ c.argTypes[0]? = some t ∧ c.args = #[x, y] ∧ xs = [x, y] ∧ P.underlying t = some (.slice e) ∧ sizeC P e = some n := by
  unfold flatCall at hf
  split at hf
  case h_6 hcl =>
    simp only [Option.bind_eq_bind, Option.bind_eq_some_iff] at hf
    obtain ⟨t, ht, hf⟩ := hf
    split at hf
    · rename_i e hu
      simp only [Option.bind_eq_some_iff] at hf
      obtain ⟨n', hn, hf⟩ := hf
      split at hf
      · rename_i hsz
        simp only [Option.some.injEq, Prod.mk.injEq, Opc.copy.injEq] at hf
        obtain ⟨rfl, rfl⟩ := hf
        obtain ⟨x, y, hxy⟩ := arr_two hsz
        exact ⟨t, e, x, y, hcl, ht, hxy, by rw [hxy], hu, hn⟩
      · cases hf
    · cases hf
  case h_5 hcl =>
    exfalso
    simp only [Option.bind_eq_bind, Option.bind_eq_some_iff] at hf
    obtain ⟨t, _, t2, _, hf⟩ := hf
    split at hf
    · simp only [Option.bind_eq_some_iff] at hf
      obtain ⟨i, _, z, _, hf⟩ := hf
      split at hf <;> cases hf
    · cases hf
  all_goals
    exfalso
    (repeat' split at hf) <;> first | (cases hf; done) | simp [Option.bind_eq_some_iff] at hf
  all_goals
    obtain ⟨t, _, hf⟩ := hf
    (repeat' split at hf) <;> first | (cases hf; done) | (simp [Option.bind_eq_some_iff] at hf; done)

def Opc.iters : Opc → Bool
  | .rangeM | .next | .entry => true
  | _ => false

theorem flat_iter {op : Op} (hf : flatOp P op = some (opc, xs)) (h : opc.iters = true) :
    (∃ t x k e, op = .range t x ∧ opc = .rangeM ∧ xs = [x] ∧ P.underlying t = some (.map k e)) ∨ (∃ x, op = .next x false ∧ opc = .next ∧ xs = [x]) ∨ ∃ x, op = .entry x ∧ opc = .entry ∧ xs = [x] := by
  cases op <;> simp only [flatOp, reduceCtorEq] at hf
  case range t x =>
    split at hf <;> cases hf
    exact .inl ⟨_, _, _, _, rfl, rfl, rfl, ‹_›⟩
  case next x s =>
    cases s <;> simp only [Bool.false_eq_true, if_false, if_true, reduceCtorEq] at hf
    cases hf
    exact .inr (.inl ⟨_, rfl, rfl, rfl⟩)
  case entry x => cases hf; exact .inr (.inr ⟨_, rfl, rfl, rfl⟩)
  case call c =>
    exfalso
    unfold flatCall at hf
    split at hf
    case h_5 =>
      simp only [Option.bind_eq_bind, Option.bind_eq_some_iff] at hf
      obtain ⟨t, _, t2, _, hf⟩ := hf
      split at hf
      · simp only [Option.bind_eq_some_iff] at hf
        obtain ⟨i, _, z, _, hf⟩ := hf
        split at hf <;> cases hf
        simp [Opc.iters] at h
      · cases hf
    case h_6 =>
      simp only [Option.bind_eq_bind, Option.bind_eq_some_iff] at hf
      obtain ⟨t, _, hf⟩ := hf
      split at hf
      · simp only [Option.bind_eq_some_iff] at hf
        obtain ⟨i, _, hf⟩ := hf
        split at hf <;> cases hf
        simp [Opc.iters] at h
      · cases hf
    case h_4 =>
      simp only [Option.bind_eq_bind, Option.bind_eq_some_iff] at hf
      obtain ⟨t, _, hf⟩ := hf
      split at hf
      · split at hf <;> cases hf
        simp [Opc.iters] at h
      · split at hf <;> cases hf
        simp [Opc.iters] at h
      · cases hf
    all_goals
      (repeat' split at hf) <;> first | (cases hf; done) | (cases hf; simp [Opc.iters] at h)
  all_goals
    exfalso
    cases opc <;> simp only [Opc.iters, Bool.false_eq_true] at h <;> ((repeat' split at hf) <;> first
      | contradiction
      | (cases hf; done)
      | (rename_i heq; cases heq; done)
      | (simp [Option.bind_eq_some_iff] at hf; done)
      | (simp only [Option.bind_eq_bind, Option.bind_eq_some_iff] at hf; obtain ⟨_, _, _, _, _, _, hf⟩ := hf; (repeat' split at hf) <;> first | (cases hf; done) | (simp at hf; done)))

theorem semE_sound (hf : flatOp P o.op = some (opc, xs)) (hv : OpsR ι ρ xs vs) (hr : HR FC w0 ι h w) (hs : semE b opc vs h = some (v, nb, h')) (hb : nb.isSome = true → ι b = none) :
    Runs FC P w0 w ι ρ o b v nb h' := by
  unfold semE at hs
  split at hs
  · rename_i bytes z a l c1 a2 l2 c2
    obtain ⟨c, hc⟩ := flat_call hf (.inl ⟨_, _, rfl⟩)
    rw [hc] at hf
    obtain ⟨t, t2, e, e2, i, x, y, hcl, hat, hag, rfl, hu, hu2, hi, hz, rfl⟩ := flat_app (by simpa only [flatOp] using hf)
    obtain ⟨v0, v1, hvv, h0, h1⟩ := OpsR.two hv
    cases hvv
    exact app_sound hc hcl hat hag hu hu2 hi hz h0 h1 hr hs hb
  · rename_i n a l c1 a2 l2 c2
    obtain ⟨c, hc⟩ := flat_call hf (.inr ⟨_, rfl⟩)
    rw [hc] at hf
    obtain ⟨t, e, x, y, hcl, hat, hag, rfl, hu, hn⟩ := flat_copy (by simpa only [flatOp] using hf)
    obtain ⟨v0, v1, hvv, h0, h1⟩ := OpsR.two hv
    cases hvv
    exact copy_sound hc hcl hat hag hu hn h0 h1 hr hs
  · rcases flat_iter hf rfl with ⟨t, x, k, e, ho, _, rfl, hu⟩ | ⟨x, _, e, _⟩ | ⟨x, _, e, _⟩
    · obtain ⟨v0, hvv, h0⟩ := hv.one
      cases hvv
      exact range_sound ho hu h0 hr hs hb
    · cases e
    · cases e
  · rcases flat_iter hf rfl with ⟨t, x, k, e, _, e2, _⟩ | ⟨x, _, e, _⟩ | ⟨x, ho, _, rfl⟩
    · cases e2
    · cases e
    · obtain ⟨v0, hvv, h0⟩ := hv.one
      cases hvv
      exact entry_sound ho h0 hr hs
  · exact sem_sound hf hv hr hs hb

end
end Go.Pw
