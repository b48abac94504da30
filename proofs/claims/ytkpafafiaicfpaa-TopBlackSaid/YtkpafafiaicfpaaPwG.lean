/- The abstract logic in which the functions of the program are walked, part 7. No condition. -/
import Derived.Test.YtkpafafiaicfpaaPwF
set_option linter.unusedSimpArgs false
set_option linter.unusedVariables false
set_option linter.unusedSectionVars false
/-! The abstract logic, part G: the soundness of 'sem', all of it. -/
namespace Go.Pw
open Go.RowKit (Below)

section
variable {FC : Nat → Code → Option AC} {P : Program} {w0 : Fr} {w : World} {ι : Inj} {h : AH} {o : Oper} {opc : Opc} {xs : List Operand} {vs : List Value} {ρ : Operand → Value} {b : Nat} {v : Value} {nb : Option Blk} {h' : AH}

theorem VR.undef {ι : Inj} : VR ι undef undef := .tuple rfl fun i v v' e => by simp at e

/-- The first cells stand for one another. -/
def PR (ι : Inj) (cs cs' : List Value) : Prop := ∀ (i : Nat) (v : Value), cs[i]? = some v → ∃ v', cs'[i]? = some v' ∧ VR ι v v'
theorem PR.set {x x' : List Value} (h : PR ι x x') (n : Nat) {v v' : Value} (hv : VR ι v v') : PR ι (x.set n v) (x'.set n v') := fun i u e => by
  rw [List.getElem?_set] at e
  split at e
  · rename_i hn
    subst hn
    split at e
    · rename_i hlt
      cases e
      obtain ⟨v'', h1, _⟩ := h n _ (List.getElem?_eq_getElem hlt)
      have := (List.getElem?_eq_some_iff.1 h1).1
      exact ⟨v', by rw [List.getElem?_set_self this], hv⟩
    · cases e
  · rename_i hn
    obtain ⟨u', h1, h2⟩ := h i u e
    exact ⟨u', by rw [List.getElem?_set_ne hn]; exact h1, h2⟩
theorem PR.spl : ∀ {ys ys' x x' : List Value} (o : Nat), PR ι x x' → CR ι ys ys' → PR ι (spl x o ys) (spl x' o ys')
  | [], [], _, _, _, h, _ => h
  | y :: ys, y' :: ys', x, x', o, h, k =>
    PR.spl (o + 1) (h.set o (k.2 0 y y' rfl rfl)) ⟨by simpa using k.1, fun i v v' e e' => k.2 (i + 1) v v' (by simpa using e) (by simpa using e')⟩
  | [], _ :: _, _, _, _, _, k => by exact absurd k.1 (by simp)
  | _ :: _, [], _, _, _, _, k => by exact absurd k.1 (by simp)

theorem sizeC_some {t : TypeId} {n : Nat} (h : sizeC P t = some n) : ∃ i, P.info? t = some i ∧ i.size = n := by
  unfold sizeC at h
  cases hi : P.info? t with
  | none => simp [hi] at h
  | some i => exact ⟨i, rfl, by simpa [hi] using h⟩

theorem mapM_some {α β : Type} (f : α → β) : ∀ l : List α, l.mapM (fun x => some (f x)) = some (l.map f)
  | [] => rfl
  | x :: l => by simp [List.mapM_cons, mapM_some f l]

theorem run_places : ∀ (fs : List Field) (pl : List (Nat × Nat)), fs.mapM (fun f => (sizeC P f.type).map fun n => (f.offset, n)) = some pl → ∀ w,
    (fs.mapM (fun f => do pure (f.offset, ← sizeOf f.type)) : Sem (List (Nat × Nat))).run P w = .ok pl w
  | [], pl, h, w => by simp at h; subst h; rfl
  | f :: fs, pl, h, w => by
    simp only [List.mapM_cons] at h
    cases hs : sizeC P f.type with
    | none => simp [hs] at h
    | some n =>
      cases hr : fs.mapM (fun f => (sizeC P f.type).map fun n => (f.offset, n)) with
      | none => simp [hs, hr] at h
      | some l =>
        simp only [hs, hr, Option.map_some, Option.bind_eq_bind, Option.bind_some, Option.pure_def, Option.some.injEq] at h
        subst h
        simp only [List.mapM_cons, Sem.run_bind, run_sizeOf hs, Result.andThen_ok, Sem.run_pure, run_places fs l hr w]

theorem rep_row (C : Array Value) (z : List Value) (len sz : Nat) (h3 : C.toList = z) (hsz : C.size = sz) :
    ((Array.range (len * sz)).map (C[· % C.size]!)).toList = (List.replicate len z).flatten := by
  have key : ∀ n, ((List.range (n * sz)).map fun i => C[i % C.size]!) = (List.replicate n z).flatten := by
    intro n
    induction n with
    | zero => simp
    | succ n ih =>
      rw [Nat.succ_mul, List.range_add, List.map_append, ih, List.replicate_succ', List.flatten_append]
      congr 1
      simp only [List.map_map, List.flatten_cons, List.flatten_nil, List.append_nil]
      apply List.ext_getElem?
      intro j
      rw [List.getElem?_map]
      by_cases hj : j < sz
      · rw [List.getElem?_range hj]
        simp only [Option.map_some, Function.comp]
        rw [hsz, Nat.add_mod, Nat.mul_mod_left, Nat.zero_add, Nat.mod_mod, Nat.mod_eq_of_lt hj, ← h3]
        simp [hsz, hj]
      · rw [List.getElem?_eq_none (by simpa using hj), List.getElem?_eq_none (by rw [← h3]; simp; omega)]
        rfl
  rw [Array.toList_map, Array.toList_range]
  exact key len

theorem VR.agg_ext {x x' : Array Value} (h : VR ι (.agg x) (.agg x')) (i j : Nat) : VR ι (.agg (x.extract i j)) (.agg (x'.extract i j)) := by
  cases h with
  | agg hx hX =>
    refine .agg (by simp [hx]) fun k v v' e e' => ?_
    rw [Array.getElem?_extract] at e e'
    split at e
    · rename_i hk
      rw [if_pos (by rw [← hx]; exact hk)] at e'
      exact hX _ v v' e e'
    · cases e

theorem wrap_id {n : Int} (h1 : -9223372036854775808 ≤ n) (h2 : n < 9223372036854775808) : IntKind.i64.wrap n = n := by
  exact IntWalk.i64_in n ⟨h1, by omega⟩

/-- The operation runs as the abstract step says. -/
def Runs (FC : Nat → Code → Option AC) (P : Program) (w0 : Fr) (w : World) (ι : Inj) (ρ : Operand → Value) (o : Oper) (b : Nat) (v : Value) (nb : Option Blk) (h' : AH) : Prop :=
  ∃ u w', ((execOp ρ o).run P w = .ok (.value u) w' ∨ ((execOp ρ o).run P w = .ok .skip w' ∧ u = undef)) ∧ Gives FC w0 ι b v nb h' u w'

theorem Runs.val (hr : HR FC w0 ι h w) {u : Value} (hv : VR ι v u) (he : (execOp ρ o).run P w = .ok (.value u) w) : Runs FC P w0 w ι ρ o b v none h :=
  ⟨u, w, .inl he, Gives.same hr hv⟩

theorem Runs.new (hr : HR FC w0 ι h w) (hb : ι b = none) {u : Value} {k : Blk} {x : Obj} {K : Option Nat} (hv : VR (ι.upd b (w.heap.size, 0, K)) v u) (hB : BlkR FC ι w0.heap.size (w.heap.size, 0, K) k (some x))
    (he : (execOp ρ o).run P w = .ok (.value u) { w with heap := w.heap.push x }) : Runs FC P w0 w ι ρ o b v (some k) h :=
  ⟨u, _, .inl he, Gives.lay hr hb hv hB⟩

theorem add_block (a : Addr) (n : Nat) : (a.add n).block = a.block := by unfold Addr.add; split <;> rfl
theorem add_off {a : Addr} {n : Nat} (h : (a.add n).off = 0) : a.off = 0 := by
  unfold Addr.add at h
  split at h
  · exact h
  · simp only at h; omega

theorem fillA_length : ∀ (pl : List (Nat × Nat)) (vs cs rs : List Value), fillA cs pl vs = some rs → rs.length = cs.length
  | [], [], cs, rs, h => by simp [fillA] at h; subst h; rfl
  | (o, n) :: pl, v :: vs, cs, rs, h => by
    simp only [fillA] at h
    split at h
    · have := fillA_length pl vs _ rs h
      rw [this, spl_length]
    · cases h
  | [], _ :: _, _, _, h => by simp [fillA] at h
  | _ :: _, [], _, _, h => by simp [fillA] at h

/-- Cells are written. -/
theorem store_cells (hr : HR FC w0 ι h w) {a a' : Addr} (ha : AdR ι a a') {xs xs' : List Value} (hx : CR ι xs xs') {h' : AH} (hw : wr h a xs = some h') :
    ∃ w', (storeCells a' xs').run P w = .ok () w' ∧ HR FC w0 ι h' w' := by
  have core : ∀ (cs : List Value) (C : Array Value) (e : TypeId) (K : Option Nat) (o : Nat) (k0 : Blk) (mk : List Value → Blk), ι a.block = some (a'.block, o, K) → o = 0 → w0.heap.size ≤ a'.block → w.heap[a'.block]? = some (.cells C e (0, 0)) →
      PR ι cs C.toList → a.spot = none → a'.spot = none → a'.off = o + a.off → a.off + xs.length ≤ cs.length → xs.all oneV = true → h[a.block]? = some k0 → k0.rw = true → (∀ l, (mk l).rw = true) →
      (∀ (D : Array Value), D.size = C.size → PR ι (spl cs a.off xs) D.toList → BlkR FC ι w0.heap.size (a'.block, 0, K) (mk (spl cs a.off xs)) (some (.cells D e (0, 0)))) →
      ∃ w', (storeCells a' xs').run P w = .ok () w' ∧ HR FC w0 ι (h.set a.block (mk (spl cs a.off xs))) w' := by
    intro cs C e K o k0 mk k3 ho hB m1 m2 h1 k2 k4 h2 h3 hc hrw hmk hBD
    subst ho
    have hone : ∀ u ∈ xs', u.oneCell' = true := fun u hu => by
      obtain ⟨i, hi⟩ := List.getElem?_of_mem hu
      have hlt : i < xs.length := by rw [hx.1]; exact (List.getElem?_eq_some_iff.1 hi).1
      exact oneV_of (hx.2 i _ u (List.getElem?_eq_getElem hlt) hi) (List.all_eq_true.1 h3 _ (List.getElem_mem hlt))
    have hCs : cs.length ≤ C.size := by
      cases hcs : cs.length with
      | zero => omega
      | succ m =>
        obtain ⟨v', hv', _⟩ := m2 m _ (List.getElem?_eq_getElem (by omega))
        have := (List.getElem?_eq_some_iff.1 hv').1
        rw [Array.length_toList] at this
        omega
    obtain ⟨b', f', s'⟩ := a'
    simp only at k2 k3 k4 m1 hB hBD
    subst k2
    have hst := run_storeCells_at P b' f' e xs' 0 C w m1 (by simp only [Nat.add_zero]; rw [← hx.1]; omega) hone
    simp only [Nat.add_zero] at hst
    refine ⟨_, hst, ?_⟩
    have hf' : f' = a.off := by omega
    have hD : (C.toList.take f' ++ xs' ++ C.toList.drop (f' + xs'.length)) = spl C.toList a.off xs' := by
      rw [spl_eq _ _ _ (by have e1 : C.toList.length = C.size := Array.length_toList; have e2 := hx.1; omega), hf']
    refine HR.set hr hc hrw (hmk _) k3 hB (x := .cells (C.toList.take f' ++ xs' ++ C.toList.drop (f' + xs'.length)).toArray e (0, 0)) ?_ rfl rfl rfl ?_
    · simp only [World.setRow]
      apply Array.ext_getElem?
      intro i
      rw [Array.getElem?_modify, Array.getElem?_setIfInBounds]
      by_cases hi : b' = i
      · subst hi
        have hlt : b' < w.heap.size := (Array.getElem?_eq_some_iff.1 m1).1
        have hg : w.heap[b'] = .cells C e (0, 0) := (Array.getElem?_eq_some_iff.1 m1).2
        simp [hlt, hg]
      · simp [hi]
    · refine hBD _ ?_ ?_
      · rw [hD, List.size_toArray, spl_length, Array.length_toList]
      · rw [List.toList_toArray, hD]
        exact PR.spl a.off m2 hx
  unfold wr at hw
  split at hw
  · rename_i cs hc
    split at hw
    · rename_i hcond
      obtain ⟨h1, h2, h3⟩ := hcond
      cases hw
      obtain ⟨_, k2, of, K, k3, k4⟩ := ha
      obtain ⟨m0, C, e, fz, m1, m2, m3⟩ := hr.blk _ _ _ hc k3
      obtain ⟨hof, hB, hfz⟩ := m3 rfl
      subst hfz
      simp only at hof m0
      subst m0; subst hof
      exact core cs C e none 0 _ (fun l => .cells true l) k3 rfl hB m1 (fun i v e => by obtain ⟨v', p1, p2⟩ := m2 i v e; exact ⟨v', by simpa using p1, p2⟩) h1 k2 k4 h2 h3 hc rfl (fun _ => rfl)
        (fun D hs hD => ⟨rfl, D, e, (0, 0), rfl, fun i v hv => by obtain ⟨v', p1, p2⟩ := hD i v hv; exact ⟨v', by simpa using p1, p2⟩, fun _ => ⟨rfl, hB, rfl⟩⟩)
    · cases hw
  · rename_i s cs hc
    split at hw
    · rename_i hcond
      obtain ⟨h1, h2, h3⟩ := hcond
      cases hw
      obtain ⟨_, k2, of, K, k3, k4⟩ := ha
      obtain ⟨m0, hB, C, e, K', hK, m1, mS, m2⟩ := hr.blk _ _ _ hc k3
      simp only at m0 hK
      subst m0; subst hK
      exact core cs C e (some K') 0 _ (fun l => .row s l) k3 rfl hB m1 (fun i v e => by obtain ⟨v', p1, p2⟩ := m2 i v e; exact ⟨v', by simpa using p1, p2⟩) h1 k2 k4 h2 h3 hc rfl (fun _ => rfl)
        (fun D hs hD => ⟨rfl, hB, D, e, K', rfl, rfl, by rw [hs]; exact mS, fun i v hv => by obtain ⟨v', p1, p2⟩ := hD i v hv; exact ⟨v', by simpa using p1, p2⟩⟩)
    · cases hw
  · cases hw

theorem storeVar_run {t : TypeId} {n : Nat} (hn : sizeC P t = some n) (hr : HR FC w0 ι h w) {a a' : Addr} (ha : AdR ι a a') {x x' : Value} (hx : VR ι x x') (hl : (cel x).length = n) {h' : AH}
    (hw : wr h a (cel x) = some h') : ∃ w', (storeVar t a' x').run P w = .ok () w' ∧ HR FC w0 ι h' w' := by
  have hcel := hx.cells
  obtain ⟨w', h1, h2⟩ := store_cells (P := P) hr ha hcel hw
  have hszx : x'.cells.size = n := by have := hcel.1; simp [cel] at this hl; omega
  exact ⟨w', by simp only [storeVar, Sem.run_bind, run_sizeOf hn, Result.andThen_ok, hszx, ne_eq, not_true_eq_false, if_false, Sem.run_pure]; simpa [cel] using h1, h2⟩

theorem binA_plain {op : BinOp} {e : EqK} {x y u : Value} (h : binA op e x y = some u) : plainV 6 u = true := by
  cases x <;> cases y <;> simp only [binA, reduceCtorEq] at h
  case bool.bool => split at h <;> cases h <;> rfl
  case agg.agg =>
    split at h
    · simp only [Option.map_eq_some_iff] at h; obtain ⟨_, _, rfl⟩ := h; rfl
    · simp only [Option.map_eq_some_iff] at h; obtain ⟨_, _, rfl⟩ := h; rfl
    · cases h
  case slice.slice a _ _ c _ _ =>
    cases c <;> simp only [binA, reduceCtorEq] at h
    split at h <;> cases h <;> rfl
  case int.int =>
    have sh : ∀ {op k a b}, shiftA op k a b = some u → plainV 6 u = true := fun {op k a b} h => by
      unfold shiftA at h
      split at h
      · cases h
      · split at h <;> cases h <;> rfl
    have it : ∀ {op k a b}, intA op k a b = some u → plainV 6 u = true := fun {op k a b} h => by
      unfold intA at h
      split at h <;> first
        | (cases h; rfl)
        | (split at h <;> cases h; rfl)
        | (simp only [Option.map_eq_some_iff] at h; obtain ⟨_, _, rfl⟩ := h; rfl)
    split at h
    · exact sh h
    · exact sh h
    · split at h
      · exact it h
      · cases h

theorem sliceBound_run {x : Value} {k : IntKind} {i : Int} {y : Nat} {code : BoundsCode} (hx : x = .int k i) (h0 : 0 ≤ i) (h1 : i ≤ y) : (Instr.sliceBound x y code).run P w = .ok i.toNat w := by
  subst hx
  simp [Instr.sliceBound, asIntOf, h0, h1]

theorem OpsR.int1 {x : Operand} {k : IntKind} {n : Int} (h : VR ι (.int k n) (ρ x)) : ρ x = .int k n := by generalize ρ x = z at h; cases h; rfl

theorem bnd_run {isS : Bool} {len cap cap' : Nat} {lo hi mx : Option Operand} {bs : List Value} {i j m : Nat} (hb : bndA len cap lo.isSome hi.isSome mx.isSome bs = some (i, j, m)) (hc : cap ≤ cap')
    (hv : OpsR ι ρ (lo.toList ++ hi.toList ++ mx.toList) bs) :
    (Instr.sliceBounds isS len cap' (lo.map ρ) (hi.map ρ) (mx.map ρ)).run P w = .ok (i, j, if mx.isSome then m else cap') w ∧ (mx = none → m = cap) ∧ (mx.isSome = true → j ≤ m ∧ m ≤ cap) ∧ (i ≤ j) ∧ (j ≤ len ∨ j ≤ cap) := by
  cases lo <;> cases hi <;> cases mx <;> simp only [Option.toList, List.nil_append, List.append_nil, List.cons_append] at hv
  · obtain rfl := hv.nil
    simp only [bndA, Option.isSome, Option.some.injEq, Prod.mk.injEq] at hb
    obtain ⟨rfl, rfl, rfl⟩ := hb
    refine ⟨by simp [Instr.sliceBounds], fun _ => rfl, fun h => by simp at h, by omega, by omega⟩
  · rename_i x
    obtain ⟨v, rfl, hv1⟩ := hv.one
    simp [bndA] at hb
  · rename_i x
    obtain ⟨v, rfl, hv1⟩ := hv.one
    cases v <;> simp only [bndA, Option.isSome, reduceCtorEq] at hb
    split at hb
    · rename_i hcond
      simp only [Option.some.injEq, Prod.mk.injEq] at hb
      obtain ⟨rfl, rfl, rfl⟩ := hb
      have e := OpsR.int1 hv1
      have hs : ∀ code, (Instr.sliceBound (ρ x) cap' code).run P w = .ok _ w := fun code => sliceBound_run e hcond.1 (by omega)
      exact ⟨by simp [Instr.sliceBounds, hs], fun _ => rfl, fun h => by simp at h, by omega, by omega⟩
    · cases hb
  · rename_i x y
    obtain ⟨v, u, rfl, hv1, hu⟩ := hv.two
    cases v <;> cases u <;> simp only [bndA, Option.isSome, reduceCtorEq] at hb
    rename_i kx nx ky ny
    split at hb
    · rename_i hcond
      simp only [Option.some.injEq, Prod.mk.injEq] at hb
      obtain ⟨rfl, rfl, rfl⟩ := hb
      have e := OpsR.int1 hv1
      have e2 := OpsR.int1 hu
      have hs2 : ∀ code, (Instr.sliceBound (ρ y) cap' code).run P w = .ok _ w := fun code => sliceBound_run e2 hcond.1 (by omega)
      have hs : ∀ code, (Instr.sliceBound (ρ x) ny.toNat code).run P w = .ok _ w := fun code => sliceBound_run e hcond.2.2.1 (by have := hcond.2.2.2; omega)
      exact ⟨by simp [Instr.sliceBounds, hs, hs2], fun h => by simp at h, fun _ => by omega, by omega, by omega⟩
    · cases hb
  · rename_i x
    obtain ⟨v, rfl, hv1⟩ := hv.one
    cases v <;> simp only [bndA, Option.isSome, reduceCtorEq] at hb
    split at hb
    · rename_i hcond
      simp only [Option.some.injEq, Prod.mk.injEq] at hb
      obtain ⟨rfl, rfl, rfl⟩ := hb
      have e := OpsR.int1 hv1
      have hs : ∀ code, (Instr.sliceBound (ρ x) len code).run P w = .ok _ w := fun code => sliceBound_run e hcond.1 (by omega)
      exact ⟨by simp [Instr.sliceBounds, hs], fun _ => rfl, fun h => by simp at h, by omega, by omega⟩
    · cases hb
  · rename_i x y
    obtain ⟨v, u, rfl, hv1, hu⟩ := hv.two
    simp [bndA] at hb
  · rename_i x y
    obtain ⟨v, u, rfl, hv1, hu⟩ := hv.two
    cases v <;> cases u <;> simp only [bndA, Option.isSome, reduceCtorEq] at hb
    rename_i kx nx ky ny
    split at hb
    · rename_i hcond
      simp only [Option.some.injEq, Prod.mk.injEq] at hb
      obtain ⟨rfl, rfl, rfl⟩ := hb
      have e := OpsR.int1 hv1
      have e2 := OpsR.int1 hu
      have hs2 : ∀ code, (Instr.sliceBound (ρ y) cap' code).run P w = .ok _ w := fun code => sliceBound_run e2 hcond.1 (by omega)
      have hs : ∀ code, (Instr.sliceBound (ρ x) ny.toNat code).run P w = .ok _ w := fun code => sliceBound_run e hcond.2.2.1 (by have := hcond.2.2.2; omega)
      exact ⟨by simp [Instr.sliceBounds, hs, hs2], fun _ => rfl, fun h => by simp at h, by omega, by omega⟩
    · cases hb
  · rename_i x y z
    obtain ⟨v, u, t, rfl, hv1, hu, ht⟩ := hv.three
    cases v <;> cases u <;> cases t <;> simp only [bndA, Option.isSome, reduceCtorEq] at hb
    rename_i kx nx ky ny kz nz
    split at hb
    · rename_i hcond
      simp only [Option.some.injEq, Prod.mk.injEq] at hb
      obtain ⟨rfl, rfl, rfl⟩ := hb
      have e := OpsR.int1 hv1
      have e2 := OpsR.int1 hu
      have e3 := OpsR.int1 ht
      have hs3 : ∀ code, (Instr.sliceBound (ρ z) cap' code).run P w = .ok _ w := fun code => sliceBound_run e3 hcond.1 (by omega)
      have hs2 : ∀ code, (Instr.sliceBound (ρ y) nz.toNat code).run P w = .ok _ w := fun code => sliceBound_run e2 hcond.2.2.1 (by have := hcond.2.2.2; omega)
      have hs : ∀ code, (Instr.sliceBound (ρ x) ny.toNat code).run P w = .ok _ w := fun code => sliceBound_run e hcond.2.2.2.2.1 (by have := hcond.2.2.2.2.2; omega)
      exact ⟨by simp [Instr.sliceBounds, hs, hs2, hs3], fun h => by simp at h, fun _ => by omega, by omega, by omega⟩
    · cases hb

/-- Entries of a map that stand for one another. -/
def ER (ι : Inj) (E : List MapEntry) (es : List (Value × Value)) : Prop := E.length = es.length ∧ ∀ (i : Nat) (e : MapEntry) (k v : Value), E[i]? = some e → es[i]? = some (k, v) → VR ι k e.key ∧ VR ι v e.val

def kdOk : Bool → TypeDesc → Prop
  | true, .int _ => True
  | false, .bool => True
  | _, _ => False

theorem sameK_run {int : Bool} {kd : TypeDesc} (hk : kdOk int kd) {k k' q q' : Value} {r : Bool} (h : sameK int k q = some r) (h1 : VR ι k k') (h2 : VR ι q q') : Instr.sameNow kd k' q' = some r ∧ (r = true → k' = q') := by
  cases int <;> cases kd <;> simp only [kdOk] at hk <;> cases k <;> cases q <;> simp only [sameK, reduceCtorEq] at h
  · cases h1; cases h2; cases h
    exact ⟨rfl, fun h => by simp at h; rw [h]⟩
  · cases h1; cases h2
    split at h
    · rename_i hj
      subst hj
      cases h
      exact ⟨by simp [Instr.sameNow], fun h => by simp at h; rw [h]⟩
    · cases h

theorem findIx_run {int : Bool} {kd : TypeDesc} (hk : kdOk int kd) {k k' : Value} (h1 : VR ι k k') : ∀ (es : List (Value × Value)) (E : List MapEntry) (n : Nat) (r : Option Nat), ER ι E es → findIx int k es = some r →
    match r with
    | none => Instr.findNow kd k' E n = some none
    | some i => ∃ e q v, E[i]? = some e ∧ es[i]? = some (q, v) ∧ k' = e.key ∧ VR ι v e.val ∧ Instr.findNow kd k' E n = some (some (n + i, e.val))
  | [], [], n, r, _, h => by simp [findIx] at h; subst h; rfl
  | (q, v) :: es, e :: E, n, r, hE, h => by
    obtain ⟨a1, a2⟩ := hE.2 0 e q v rfl rfl
    have hE' : ER ι E es := ⟨by simpa using hE.1, fun i e k v x y => hE.2 (i + 1) e k v (by simpa using x) (by simpa using y)⟩
    simp only [findIx] at h
    cases hs : sameK int k q with
    | none => simp [hs] at h
    | some b =>
      obtain ⟨b1, b2⟩ := sameK_run hk hs h1 a1
      simp only [hs, Option.bind_some] at h
      cases b with
      | true =>
        simp only [if_true, Option.some.injEq] at h
        subst h
        exact ⟨e, q, v, rfl, rfl, b2 rfl, a2, by simp [Instr.findNow, b1]⟩
      | false =>
        simp only [Bool.false_eq_true, if_false, Option.map_eq_some_iff] at h
        obtain ⟨o, h3, rfl⟩ := h
        have ih := findIx_run hk h1 es E (n + 1) o hE' h3
        cases o with
        | none => simpa [Instr.findNow, b1] using ih
        | some i =>
          obtain ⟨e', q', v', c1, c2, c3, c4, c5⟩ := ih
          exact ⟨e', q', v', by simpa using c1, by simpa using c2, c3, c4, by simp only [Instr.findNow, b1, c5]; congr 3; omega⟩
  | [], _ :: _, _, _, hE, _ => by simp [ER] at hE
  | _ :: _, [], _, _, hE, _ => by simp [ER] at hE

theorem checkKey_run {int : Bool} {kd : TypeDesc} (hk : kdOk int kd) {t : TypeId} (hu : P.underlying t = some kd) (k : Value) (em : Bool) : (Instr.checkKey em 10000 t k).run P w = .ok () w := by
  have g : ∀ n, (Instr.checkKey em (n + 1) t k).run P w = .ok () w := fun n => by
    cases int <;> cases kd <;> simp only [kdOk] at hk
    · simp only [Instr.checkKey, Sem.run_bind, run_underlying hu, Result.andThen_ok]; rfl
    · simp only [Instr.checkKey, Sem.run_bind, run_underlying hu, Result.andThen_ok]; rfl
  exact g 9999

theorem keyV_same {int : Bool} {k k' : Value} (h : keyV int k = true) (h1 : VR ι k k') : k' = k := by
  cases int <;> cases k <;> simp [keyV] at h <;> cases h1 <;> rfl

theorem sameBits_key {int : Bool} {k : Value} (h : keyV int k = true) : Instr.sameBits 10000 k k = true := by
  cases int <;> cases k <;> simp [keyV] at h <;> simp [Instr.sameBits]

theorem lookA_R {z v v' : Value} {ok : Bool} (hv : VR ι v v') (b : Bool) : VR ι (if ok then .tuple #[v, .bool b] else v) (if ok then .tuple #[v', .bool b] else v') := by
  cases ok
  · exact hv
  · refine .tuple rfl fun i x y e e' => ?_
    match i with
    | 0 => simp at e e'; subst e; subst e'; exact hv
    | 1 => simp at e e'; subst e; subst e'; exact .bool b
    | n + 2 => simp at e

theorem lookup_sound {t kt e : TypeId} {kd : TypeDesc} {int ok : Bool} {x i : Operand} {z : Value} {inf : TypeInfo} (ho : o.op = .lookup t x i ok) (hu : P.underlying t = some (.map kt e)) (hkd : P.underlying kt = some kd) (hk : kdOk int kd)
    (hi : P.info? e = some inf) (hz : inf.zero = some z) (hp : plainV 6 z = true) (hv : OpsR ι ρ [x, i] vs) (hr : HR FC w0 ι h w) (hs : sem b (.lookup z ok int) vs h = some (v, nb, h')) : Runs FC P w0 w ι ρ o b v nb h' := by
  obtain ⟨v0, v1, rfl, h0, h1⟩ := hv.two
  cases v0 <;> (try simp only [sem, reduceCtorEq] at hs)
  rename_i r
  cases r with
  | none =>
    simp only [sem] at hs
    split at hs
    · rename_i hkv
      simp only [Option.some.injEq, Prod.mk.injEq] at hs
      obtain ⟨rfl, rfl, rfl⟩ := hs
      have e0 : ρ x = .map none := by generalize ρ x = y at h0; cases h0; rfl
      refine Runs.val hr (u := if ok then .tuple #[z, .bool false] else z) (lookA_R (z := z) (VR.plain 6 z hp) false) ?_
      have hf : (Instr.findKey kt (ρ i) []).run P w = .ok none w := by simp [Instr.findKey, run_underlying hkd, Instr.findNow]
      simp [execOp, ho, Instr.lookup, run_underlying hu, e0, checkKey_run hk hkd, hf, run_zeroValue hi hz]
    · cases hs
  | some r =>
    simp only [sem] at hs
    split at hs
    · rename_i es hes
      split at hs
      · rename_i hkv
        simp only [Option.map_eq_some_iff, Prod.mk.injEq] at hs
        obtain ⟨res, hg, rfl, rfl, rfl⟩ := hs
        have ha : ∃ r', ρ x = .map (some r') ∧ ι r = some (r', 0, none) := by generalize ρ x = y at h0; cases h0; exact ⟨_, rfl, by assumption⟩
        obtain ⟨r', e0, e1⟩ := ha
        obtain ⟨_, _, E, m1, m2, m3⟩ := hr.blk r _ (r', 0, none) hes e1
        have hER : ER ι E.toList es := ⟨by simpa using m2, fun i e k v x y => (m3 i e k v (by simpa using x) y).2⟩
        unfold getK at hg
        simp only [Option.map_eq_some_iff] at hg
        obtain ⟨ix, hix, rfl⟩ := hg
        have hfr := findIx_run hk h1 es E.toList 0 ix hER hix
        have hgo : (getObj r').run P w = .ok (.map E E.size) w := by simp [getObj, Sem.run, m1]
        cases ix with
        | none =>
          simp only at hfr
          refine Runs.val hr (u := if ok then .tuple #[z, .bool false] else z) (lookA_R (z := z) (VR.plain 6 z hp) false) ?_
          have hf : (Instr.findKey kt (ρ i) E.toList).run P w = .ok none w := by simp [Instr.findKey, run_underlying hkd, hfr]
          simp [execOp, ho, Instr.lookup, run_underlying hu, e0, hgo, checkKey_run hk hkd, hf, run_zeroValue hi hz]
        | some j =>
          obtain ⟨en, q, u, c1, c2, c3, c4, c5⟩ := hfr
          have hl : lookA z ok ((some j).bind fun i => es[i]?.map (·.2)) = if ok then .tuple #[u, .bool true] else u := by simp [lookA, c2]
          rw [hl]
          refine Runs.val hr (u := if ok then .tuple #[en.val, .bool true] else en.val) (lookA_R (z := z) c4 true) ?_
          have hf : (Instr.findKey kt (ρ i) E.toList).run P w = .ok (some (0 + j, en.val)) w := by simp [Instr.findKey, run_underlying hkd, c5]
          simp [execOp, ho, Instr.lookup, run_underlying hu, e0, hgo, checkKey_run hk hkd, hf]
      · cases hs
    · cases hs

theorem update_sound {t kt e : TypeId} {kd : TypeDesc} {int : Bool} {m k x : Operand} (ho : o.op = .mapUpdate t m k x ∨ o.op = .insert t m k x) (hu : P.underlying t = some (.map kt e)) (hkd : P.underlying kt = some kd) (hk : kdOk int kd)
    (hv : OpsR ι ρ [m, k, x] vs) (hr : HR FC w0 ι h w) (hs : sem b (.mapUpd int) vs h = some (v, nb, h')) : Runs FC P w0 w ι ρ o b v nb h' := by
  obtain ⟨v0, v1, v2, rfl, h0, h1, h2⟩ := hv.three
  cases v0 <;> (try simp only [sem, reduceCtorEq] at hs)
  rename_i r
  cases r with
  | none => simp [sem] at hs
  | some r =>
    simp only [sem] at hs
    split at hs
    · rename_i es hes
      split at hs
      · rename_i hkv
        simp only [Option.map_eq_some_iff, Prod.mk.injEq] at hs
        obtain ⟨es', hg, rfl, rfl, rfl⟩ := hs
        have ha : ∃ r', ρ m = .map (some r') ∧ ι r = some (r', 0, none) := by generalize ρ m = y at h0; cases h0; exact ⟨_, rfl, by assumption⟩
        obtain ⟨r', e0, e1⟩ := ha
        obtain ⟨_, hB, E, m1, m2, m3⟩ := hr.blk r _ (r', 0, none) hes e1
        have hER : ER ι E.toList es := ⟨by simpa using m2, fun i e k v x y => (m3 i e k v (by simpa using x) y).2⟩
        unfold updK at hg
        simp only [Option.map_eq_some_iff] at hg
        obtain ⟨ix, hix, hg⟩ := hg
        have hfr := findIx_run hk h1 es E.toList 0 ix hER hix
        have hgo : (getObj r').run P w = .ok (.map E E.size) w := by simp [getObj, Sem.run, m1]
        have hso : ∀ ob, (setObj r' ob).run P w = .ok () { w with heap := w.heap.setIfInBounds r' ob } := fun ob => by simp [setObj, Sem.run, m1]
        have hk1 := keyV_same hkv h1
        have hk' : ρ k = v1 := hk1
        have fin : ∀ (E' : Array MapEntry), E'.size = es'.length → (∀ (i : Nat) (e : MapEntry) (k v : Value), E'[i]? = some e → es'[i]? = some (k, v) → e.born = i ∧ VR ι k e.key ∧ VR ι v e.val) →
            (Instr.mapUpdate t (ρ m) (ρ k) (ρ x)).run P w = .ok () { w with heap := w.heap.setIfInBounds r' (.map E' E'.size) } → Runs FC P w0 w ι ρ o b undef none (h.set r (.map es')) := fun E' hl hE hrun => by
          refine ⟨undef, _, .inr ⟨?_, rfl⟩, Gives.same (HR.set (k := .map es') (x := .map E' E'.size) (w' := { w with heap := w.heap.setIfInBounds r' (.map E' E'.size) }) hr hes rfl rfl e1 hB rfl rfl rfl rfl ⟨rfl, hB, E', rfl, hl, hE⟩) VR.undef⟩
          rcases ho with ho | ho
          · simp only [execOp, ho, Sem.run_bind, hrun, Result.andThen_ok]; rfl
          · simp only [execOp, ho, Sem.run_bind, hrun, Result.andThen_ok]; rfl
        cases ix with
        | none =>
          simp only at hfr hg
          subst hg
          have hf : (Instr.findKey kt (ρ k) E.toList).run P w = .ok none w := by simp [Instr.findKey, run_underlying hkd, hfr]
          refine fin (E.push { key := ρ k, val := ρ x, born := E.size }) (by simp [m2]) (fun i e a c hi hj => ?_) ?_
          · rw [Array.getElem?_push] at hi
            split at hi
            · rename_i hi'
              cases hi
              subst hi'
              rw [List.getElem?_append_right (by omega)] at hj
              simp [m2] at hj
              obtain ⟨rfl, rfl⟩ := hj
              exact ⟨rfl, h1, h2⟩
            · rename_i hi'
              have hlt := (Array.getElem?_eq_some_iff.1 hi).1
              rw [List.getElem?_append_left (by omega)] at hj
              exact m3 i e a c hi hj
          · simp only [Instr.mapUpdate, Sem.run_bind, run_underlying hu, Result.andThen_ok, e0, hgo, checkKey_run hk hkd, hf, hso]
            simp
        | some j =>
          obtain ⟨en, q, u, c1, c2, c3, c4, c5⟩ := hfr
          simp only at hg
          subst hg
          have hf : (Instr.findKey kt (ρ k) E.toList).run P w = .ok (some (0 + j, en.val)) w := by simp [Instr.findKey, run_underlying hkd, c5]
          have c1' : E[j]? = some en := by simpa using c1
          have hstay : (Instr.keyThatStays en.key (ρ k)).run P w = .ok (ρ k) w := by
            unfold Instr.keyThatStays
            rw [← c3, hk', sameBits_key hkv]
            simp
          refine fin (E.modify j fun e => { e with key := ρ k, val := ρ x }) (by simp [m2]) (fun i e a c hi hj => ?_) ?_
          · rw [Array.getElem?_modify] at hi
            rw [List.getElem?_set] at hj
            split at hi
            · rename_i hij
              subst hij
              rw [c1'] at hi
              simp at hi
              subst hi
              simp only [if_true] at hj
              split at hj
              · cases hj
                have := m3 j en q u c1' c2
                exact ⟨this.1, h1, h2⟩
              · cases hj
            · rename_i hij
              rw [if_neg hij] at hj
              exact m3 i e a c hi hj
          · simp only [Instr.mapUpdate, Sem.run_bind, run_underlying hu, Result.andThen_ok, e0, hgo, checkKey_run hk hkd, hf, Nat.zero_add, c1', Option.map_some, Option.getD_some, hstay, hso]
            simp
      · cases hs
    · cases hs

theorem mm_run (mx : Bool) : ∀ (vs vs' : List Value) (v v' r : Value), CR ι vs vs' → VR ι v v' → mmA mx v vs = some r → ∃ r', (vs'.foldlM (if mx then Builtin.max2 else Builtin.min2) v').run P w = .ok r' w ∧ VR ι r r'
  | [], [], v, v', r, _, hv, h => by simp [mmA] at h; subst h; exact ⟨v', rfl, hv⟩
  | u :: vs, u' :: vs', v, v', r, hc, hv, h => by
    have h0 : VR ι u u' := hc.2 0 u u' rfl rfl
    have hc' : CR ι vs vs' := ⟨by simpa using hc.1, fun i v v' e e' => hc.2 (i + 1) v v' (by simpa using e) (by simpa using e')⟩
    cases v <;> (try simp only [mmA, reduceCtorEq] at h)
    cases u <;> simp only [mmA, reduceCtorEq] at h
    cases h0
    cases hv
    have ih := mm_run mx vs vs' _ _ r hc' (.int _ _) h
    cases mx
    · simpa [List.foldlM, Builtin.min2] using ih
    · simpa [List.foldlM, Builtin.max2] using ih
  | [], _ :: _, _, _, _, hc, _, _ => by exact absurd hc.1 (by simp)
  | _ :: _, [], _, _, _, hc, _, _ => by exact absurd hc.1 (by simp)

theorem mm_sound {c : Call} (mx : Bool) (ho : o.op = .call c) (hcl : (mx = false ∧ c.callee = .builtin .min) ∨ (mx = true ∧ c.callee = .builtin .max)) (hv : OpsR ι ρ c.args.toList vs) (hr : HR FC w0 ι h w)
    (hs : sem b (.mm mx) vs h = some (v, nb, h')) : Runs FC P w0 w ι ρ o b v nb h' := by
  cases vs with
  | nil => simp [sem] at hs
  | cons v0 vs =>
    simp only [sem, Option.map_eq_some_iff, Prod.mk.injEq] at hs
    obtain ⟨r, hm, rfl, rfl, rfl⟩ := hs
    have harr := hv.arr
    cases hL : c.args.toList with
    | nil => rw [hL] at hv; exact hv.elim
    | cons x xs =>
      rw [hL] at hv
      obtain ⟨r', h1, h2⟩ := mm_run (P := P) (w := w) mx vs (xs.map ρ) v0 (ρ x) r hv.2.arr hv.1 hm
      have hl : (c.args.map ρ).toList = ρ x :: xs.map ρ := by simp [hL]
      refine Runs.val hr h2 ?_
      rcases hcl with ⟨rfl, hcl⟩ | ⟨rfl, hcl⟩
      · simp only [execOp, ho, resolve, hcl, Sem.run_bind, Sem.run_pure, Result.andThen_ok, invoke, builtin, Builtin.min_, hl]
        rw [show (xs.map ρ).foldlM Builtin.min2 (ρ x) = (xs.map ρ).foldlM (if false then Builtin.max2 else Builtin.min2) (ρ x) from rfl, h1]; rfl
      · simp only [execOp, ho, resolve, hcl, Sem.run_bind, Sem.run_pure, Result.andThen_ok, invoke, builtin, Builtin.max_, hl]
        rw [show (xs.map ρ).foldlM Builtin.max2 (ρ x) = (xs.map ρ).foldlM (if true then Builtin.max2 else Builtin.min2) (ρ x) from rfl, h1]; rfl

theorem sem_sound (hf : flatOp P o.op = some (opc, xs)) (hv : OpsR ι ρ xs vs) (hr : HR FC w0 ι h w) (hs : sem b opc vs h = some (v, nb, h')) (hb : nb.isSome = true → ι b = none) :
    Runs FC P w0 w ι ρ o b v nb h' := by
  have op_eq : ∀ r, execOp ρ o = r → execOp ρ o = r := fun _ h => h
  cases ho : o.op <;> rw [ho] at hf <;> simp only [flatOp, reduceCtorEq] at hf
  case range t x =>
    exfalso
    split at hf <;> cases hf
    unfold sem at hs
    split at hs <;> first | contradiction | (cases hs; done)
  case next x s =>
    exfalso
    split at hf <;> cases hf
    unfold sem at hs
    split at hs <;> first | contradiction | (cases hs; done)
  case entry x =>
    exfalso
    cases hf
    unfold sem at hs
    split at hs <;> first | contradiction | (cases hs; done)
  case move x =>
    cases hf
    obtain ⟨v0, rfl, h0⟩ := hv.one
    simp only [sem, Option.some.injEq, Prod.mk.injEq] at hs
    obtain ⟨rfl, rfl, rfl⟩ := hs
    exact Runs.val hr h0 (by simp [execOp, ho])
  case assign x =>
    cases hf
    obtain ⟨v0, rfl, h0⟩ := hv.one
    simp only [sem, Option.some.injEq, Prod.mk.injEq] at hs
    obtain ⟨rfl, rfl, rfl⟩ := hs
    exact Runs.val hr h0 (by simp [execOp, ho])
  case pick c x y =>
    cases hf
    obtain ⟨v0, v1, v2, rfl, h0, h1, h2⟩ := hv.three
    cases v0 <;> simp only [sem, reduceCtorEq] at hs
    rename_i t
    simp only [Option.some.injEq, Prod.mk.injEq] at hs
    obtain ⟨rfl, rfl, rfl⟩ := hs
    have hc : ρ c = .bool t := by generalize ρ c = z at h0; cases h0; rfl
    cases t
    · exact Runs.val hr (u := ρ y) h2 (by simp [execOp, ho, hc, asBool])
    · exact Runs.val hr (u := ρ x) h1 (by simp [execOp, ho, hc, asBool])
  case alloc e =>
    simp only [Option.map_eq_some_iff] at hf
    obtain ⟨z, hz, hf⟩ := hf
    cases hf
    obtain rfl := hv.nil
    simp only [sem, Option.some.injEq, Prod.mk.injEq] at hs
    obtain ⟨rfl, rfl, rfl⟩ := hs
    obtain ⟨i, u, h1, h2, h3, h4, _⟩ := zeroC_spec hz
    refine Runs.new hr (hb rfl) (ptr_new ι b _) (blk_new hr (C := u.cells) (e := e) (by rw [h3]; exact CR.plain h4)) ?_
    simp [execOp, ho, Instr.alloc, run_zeroValue h1 h2, newVar, newRow]
  case box e x =>
    cases hf
    obtain ⟨v0, rfl, h0⟩ := hv.one
    simp only [sem, Option.some.injEq, Prod.mk.injEq] at hs
    obtain ⟨rfl, rfl, rfl⟩ := hs
    refine Runs.new hr (hb rfl) (ptr_new ι b _) (blk_new hr (C := (ρ x).cells) (e := e) h0.cells) ?_
    simp [execOp, ho, Instr.box, newVar, newRow]
  case load t a =>
    cases hg : aggC P t with
    | none => simp [hg] at hf
    | some g =>
      simp only [hg, Option.bind_eq_bind, Option.bind_some] at hf
      cases g with
      | true =>
        simp only [if_true, Option.map_eq_some_iff] at hf
        obtain ⟨n, hn, hf⟩ := hf
        cases hf
        obtain ⟨v0, rfl, h0⟩ := hv.one
        cases v0 <;> simp only [sem, reduceCtorEq] at hs
        rename_i p
        cases p <;> simp only [sem, reduceCtorEq] at hs
        rename_i p
        simp only [Option.map_eq_some_iff, Prod.mk.injEq] at hs
        obtain ⟨cs, hc, rfl, rfl, rfl⟩ := hs
        have ha : ∃ p', ρ a = .pointer (some p') ∧ AdR ι p p' := by generalize ρ a = z at h0; cases h0; exact ⟨_, rfl, by assumption⟩
        obtain ⟨p', e1, e2⟩ := ha
        obtain ⟨cs', c1, c2, c3⟩ := hr.cellsN e2 hc
        refine Runs.val hr (u := .agg cs'.toArray) (VR.agg_of c1) ?_
        have hl := run_loadCells_list (P := P) w p' cs' c3
        rw [c2] at hl
        simp [execOp, ho, Instr.loadAt, e1, Instr.sureAddr, loadVar, run_isAgg hg, run_sizeOf hn, hl]
      | false =>
        simp only [Bool.false_eq_true, if_false, Option.some.injEq] at hf
        cases hf
        obtain ⟨v0, rfl, h0⟩ := hv.one
        cases v0 <;> simp only [sem, reduceCtorEq] at hs
        rename_i p
        cases p <;> simp only [sem, reduceCtorEq] at hs
        rename_i p
        simp only [Option.map_eq_some_iff, Prod.mk.injEq] at hs
        obtain ⟨u, hc, rfl, rfl, rfl⟩ := hs
        have ha : ∃ p', ρ a = .pointer (some p') ∧ AdR ι p p' := by generalize ρ a = z at h0; cases h0; exact ⟨_, rfl, by assumption⟩
        obtain ⟨p', e1, e2⟩ := ha
        obtain ⟨u', c1, c2⟩ := hr.cell e2 hc
        exact Runs.val hr c2 (by simp [execOp, ho, Instr.loadAt, e1, Instr.sureAddr, loadVar, run_isAgg hg, c1])
  case store t a x =>
    simp only [Option.map_eq_some_iff] at hf
    obtain ⟨n, hn, hf⟩ := hf
    cases hf
    obtain ⟨v0, v1, rfl, h0, h1⟩ := hv.two
    cases v0 <;> simp only [sem, reduceCtorEq] at hs
    rename_i p
    cases p <;> simp only [sem, reduceCtorEq] at hs
    rename_i p
    split at hs
    · rename_i hl
      simp only [Option.map_eq_some_iff, Prod.mk.injEq] at hs
      obtain ⟨h1', hw, rfl, rfl, rfl⟩ := hs
      have ha : ∃ p', ρ a = .pointer (some p') ∧ AdR ι p p' := by generalize ρ a = z at h0; cases h0; exact ⟨_, rfl, by assumption⟩
      obtain ⟨p', e1, e2⟩ := ha
      obtain ⟨w', r1, r2⟩ := storeVar_run (P := P) hn hr e2 h1 hl hw
      refine ⟨undef, w', .inr ⟨by simp [execOp, ho, Instr.storeAt, e1, Instr.sureAddr, r1], rfl⟩, Gives.same r2 VR.undef⟩
    · cases hs
  case nilCheck x =>
    cases hf
    obtain ⟨v0, rfl, h0⟩ := hv.one
    cases v0 <;> simp only [sem, reduceCtorEq] at hs
    case pointer p =>
      cases p <;> simp only [sem, reduceCtorEq] at hs
      rename_i p
      simp only [Option.some.injEq, Prod.mk.injEq] at hs
      obtain ⟨rfl, rfl, rfl⟩ := hs
      have ha : ∃ p', ρ x = .pointer (some p') := by generalize ρ x = z at h0; cases h0; exact ⟨_, rfl⟩
      obtain ⟨p', e1⟩ := ha
      exact Runs.val hr h0 (by simp [execOp, ho, e1])
    case func f a c =>
      cases f <;> simp only [sem, reduceCtorEq] at hs
      all_goals
        simp only [Option.some.injEq, Prod.mk.injEq] at hs
        obtain ⟨rfl, rfl, rfl⟩ := hs
        refine Runs.val hr h0 ?_
        generalize hz : ρ x = z at h0
        cases h0
        rename_i fr _ _ _ _
        simp only [FnR] at fr
        first
          | (subst fr; simp [execOp, ho, hz]; done)
          | (obtain ⟨l', _, rfl⟩ := fr; simp [execOp, ho, hz])
  case build t parts =>
    cases hz : zeroC P t with
    | none => simp [hz] at hf
    | some z =>
      obtain ⟨i, u, h1, h2, h3, h4, _⟩ := zeroC_spec hz
      simp only [hz, Option.bind_eq_bind, Option.bind_some] at hf
      have hzv := run_zeroValue (P := P) h1 h2 w
      have hz0 : CR ι z u.cells.toList := by rw [h3]; exact CR.plain h4
      split at hf
      · rename_i fs hu
        cases hpl : places P fs with
        | none => simp [hpl] at hf
        | some pl =>
          simp only [hpl, Option.bind_some] at hf
          cases hl : parts.toList.mapM (fun x => pl[x.1]?) with
          | none => simp [hl] at hf
          | some l =>
            simp only [hl, Option.bind_some, Option.some.injEq, Prod.mk.injEq] at hf
            obtain ⟨rfl, rfl⟩ := hf
            simp only [sem, Option.map_eq_some_iff, Prod.mk.injEq] at hs
            obtain ⟨cs, hc, rfl, rfl, rfl⟩ := hs
            have hpr : (fs.mapM fun f => do pure (f.offset, ← sizeOf f.type) : Sem (Array (Nat × Nat))).run P w = .ok pl.toArray w := by
              unfold places at hpl
              rw [Array.mapM_eq_mapM_toList, Sem.run_map, run_places fs.toList pl hpl w]; rfl
            obtain ⟨R, r1, r2⟩ := fill_sound (ρ := ρ) (fun i => pl[i]?) parts.toList l vs z cs u.cells hl hv hz0 hc
            refine Runs.val hr (u := .agg R) (by have := VR.agg_of r2; simpa using this) ?_
            have r1' : Instr.fill (fun i => pl.toArray[i]?) u.cells (parts.toList.map fun x => (x.1, ρ x.2)) = some R := by simpa using r1
            simp only [execOp, ho, Instr.build, Sem.run_bind, hzv, Result.andThen_ok, run_underlying hu, hpr, Array.toList_map, r1']
            simp
      · rename_i n e hu
        cases hn : sizeC P e with
        | none => simp [hn] at hf
        | some sz =>
          simp only [hn, Option.bind_some, Option.some.injEq, Prod.mk.injEq] at hf
          obtain ⟨rfl, rfl⟩ := hf
          simp only [sem, Option.map_eq_some_iff, Prod.mk.injEq] at hs
          obtain ⟨cs, hc, rfl, rfl, rfl⟩ := hs
          obtain ⟨R, r1, r2⟩ := fill_sound (ρ := ρ) (fun i => some (i * sz, sz)) parts.toList _ vs z cs u.cells (mapM_some _ _) hv hz0 hc
          refine Runs.val hr (u := .agg R) (by have := VR.agg_of r2; simpa using this) ?_
          simp only [execOp, ho, Instr.build, Sem.run_bind, hzv, Result.andThen_ok, run_underlying hu, run_sizeOf hn, Array.toList_map, r1]
          simp
      · cases hf
  case buildSlice t len parts =>
    split at hf
    · rename_i e hu
      cases hn : sizeC P e with
      | none => simp [hn] at hf
      | some sz =>
        cases hz : zeroC P e with
        | none => simp [hn, hz] at hf
        | some z =>
          simp only [hn, hz, Option.bind_eq_bind, Option.bind_some] at hf
          split at hf
          · rename_i hle
            simp only [Option.some.injEq, Prod.mk.injEq] at hf
            obtain ⟨rfl, rfl⟩ := hf
            simp only [sem, Option.map_eq_some_iff, Prod.mk.injEq] at hs
            obtain ⟨cs, hc, rfl, rfl, rfl⟩ := hs
            obtain ⟨i, u, h1, h2, h3, h4, h5⟩ := zeroC_spec hz
            have hsz : u.cells.size = sz := by have := sizeC_some hn; obtain ⟨j, j1, j2⟩ := this; rw [h1] at j1; cases j1; omega
            have hzz : z.length = sz := by rw [← h3]; simpa using hsz
            have hrow : ((Array.range (len * sz)).map ((if len * sz = 0 then #[] else u.cells)[· % (if len * sz = 0 then #[] else u.cells).size]!)).toList = (List.replicate len z).flatten := by
              by_cases h0 : len * sz = 0
              · simp only [h0, if_true]
                rcases Nat.mul_eq_zero.1 h0 with rfl | rfl
                · simp
                · have : z = [] := List.eq_nil_of_length_eq_zero hzz
                  simp [this]
              · simp only [h0, if_false]
                exact rep_row u.cells z len sz h3 hsz
            obtain ⟨R, r1, r2⟩ := fill_sound (ρ := ρ) (fun i => some (i * sz, sz)) parts.toList _ vs (List.replicate len z).flatten cs _ (mapM_some _ _) hv (by rw [hrow]; exact (CR.plain h4).replicate len) hc
            have hR : R.size = len * sz := by
              have e1 := r2.1
              have e2 := fillA_length _ _ _ _ hc
              rw [List.length_flatten, List.map_replicate, List.sum_replicate_nat, hzz] at e2
              have e3 : R.toList.length = R.size := Array.length_toList
              omega
            refine Runs.new hr (hb rfl) (slice_new ι b _ len len len len (Nat.le_refl _) id (Nat.le_refl _)) (row_new hr (C := R) (e := e) hR r2.ex') ?_
            by_cases h0 : len * sz = 0
            · simp only [h0, if_true, Array.range_zero', Array.map_empty] at r1
              simp [execOp, ho, Instr.buildSlice, run_underlying hu, run_sizeOf hn, h0, r1, newRow, Array.range_zero']
            · simp only [h0, if_false] at r1
              simp [execOp, ho, Instr.buildSlice, run_underlying hu, run_sizeOf hn, h0, Nat.not_lt.2 hle, run_zeroValue h1 h2, r1, newRow]
          · cases hf
    · cases hf
  case binOp op t x y t2 =>
    cases hf
    obtain ⟨v0, v1, rfl, h0, h1⟩ := hv.two
    simp only [sem, Option.map_eq_some_iff, Prod.mk.injEq] at hs
    obtain ⟨u, hu, rfl, rfl, rfl⟩ := hs
    have hrun := binOp_sound (P := P) (w := w) op t x y h0 h1 hu
    have hvu : VR ι u u := VR.plain 6 u (binA_plain hu)
    exact Runs.val hr hvu (by simp only [execOp, ho]; rw [Sem.run_bind, hrun]; rfl)
  case unOp op t x =>
    cases hf
    obtain ⟨v0, rfl, h0⟩ := hv.one
    simp only [sem, Option.map_eq_some_iff, Prod.mk.injEq] at hs
    obtain ⟨u, hu, rfl, rfl, rfl⟩ := hs
    unfold unA at hu
    split at hu
    · rename_i k n
      cases hu
      have e : ρ x = .int k n := by generalize ρ x = z at h0; cases h0; rfl
      exact Runs.val hr (.int _ _) (by simp [execOp, ho, e, Op.unary, Op.intArith])
    · rename_i q
      cases hu
      have e : ρ x = .bool q := by generalize ρ x = z at h0; cases h0; rfl
      exact Runs.val hr (.bool _) (by simp [execOp, ho, e, Op.unary])
    · cases hu
  case convert s d x =>
    split at hf
    · rename_i k k' hs1 hd1
      cases hf
      obtain ⟨v0, rfl, h0⟩ := hv.one
      cases v0 <;> simp only [sem, reduceCtorEq] at hs
      rename_i kk n
      simp only [Option.some.injEq, Prod.mk.injEq] at hs
      obtain ⟨rfl, rfl, rfl⟩ := hs
      have e : ρ x = .int kk n := by generalize ρ x = z at h0; cases h0; rfl
      exact Runs.val hr (.int _ _) (by simp [execOp, ho, e, convert, run_underlying hs1, run_underlying hd1, Conv.intToInt])
    · cases hf
  case makeInterface t x =>
    split at hf
    · cases hf
    · cases hf
    · rename_i d hn1 hn2
      cases hf
      obtain ⟨v0, rfl, h0⟩ := hv.one
      simp only [sem, Option.some.injEq, Prod.mk.injEq] at hs
      obtain ⟨rfl, rfl, rfl⟩ := hs
      cases hu : P.underlying t with
      | none => exact absurd hu hn2
      | some d =>
        refine Runs.val hr (.iface t h0) ?_
        simp only [execOp, ho, Instr.makeInterface, Sem.run_bind, run_underlying hu, Result.andThen_ok]
        cases d <;> first | rfl | exact absurd hu (hn1 _)
  case makeFunc fn first cap =>
    cases hf
    obtain ⟨us, ws, rfl, hl, h1, h2⟩ := hv.split
    have c1 := h1.arr
    have c2 := h2.arr
    have hl' : us.length = first.size := by simpa using hl
    have mk : ∀ F : Fn, FnR ι F F → VR ι (.func F us.toArray ws.toArray) (.func F (first.map ρ) (cap.map ρ)) := fun F hF =>
      .func hF (by simpa using c1.1) (fun i v v' e e' => c1.2 i v v' (by simpa using e) (by simpa using e')) (by simpa using c2.1) (fun i v v' e e' => c2.2 i v v' (by simpa using e) (by simpa using e'))
    cases fn <;> simp only [sem, reduceCtorEq] at hs
    all_goals
      simp only [Option.some.injEq, Prod.mk.injEq] at hs
      obtain ⟨rfl, rfl, rfl⟩ := hs
      rw [List.take_left' hl', List.drop_left' hl']
      exact Runs.val hr (mk _ rfl) (by simp [execOp, ho, Instr.makeFunc])
  case makeMap t r =>
    cases r with
    | some r => simp [flatOp] at hf
    | none =>
      simp only [flatOp, Option.some.injEq, Prod.mk.injEq] at hf
      obtain ⟨rfl, rfl⟩ := hf
      obtain rfl := hv.nil
      simp only [sem, Option.some.injEq, Prod.mk.injEq] at hs
      obtain ⟨rfl, rfl, rfl⟩ := hs
      refine Runs.new hr (hb rfl) (u := .map (some w.heap.size)) (K := none) (.map (by simp [Inj.upd])) (x := .map #[] 0) ⟨rfl, hr.below.size, #[], rfl, rfl, fun i e k v h => by simp at h⟩ ?_
      simp [execOp, ho, Instr.makeMap]
  case makeSlice t l c =>
    split at hf
    · rename_i e hu
      cases hi : P.info? e with
      | none => simp [hi] at hf
      | some i =>
        cases hz : zeroC P e with
        | none => simp [hi, hz] at hf
        | some z =>
          simp only [hi, hz, Option.bind_eq_bind, Option.bind_some, Option.some.injEq, Prod.mk.injEq] at hf
          obtain ⟨rfl, rfl⟩ := hf
          obtain ⟨i', u, h1, h2, h3, h4, h5⟩ := zeroC_spec hz
          rw [hi] at h1; cases h1
          obtain ⟨v0, v1, rfl, h0, h1⟩ := hv.two
          cases v0 <;> simp only [sem, reduceCtorEq] at hs
          cases v1 <;> simp only [sem, reduceCtorEq] at hs
          rename_i k0 n0 k1 n1
          split at hs
          · rename_i hc
            obtain ⟨c1, c2, c3, c4⟩ := hc
            simp only [Option.some.injEq, Prod.mk.injEq] at hs
            obtain ⟨rfl, rfl, rfl⟩ := hs
            have e0 : ρ l = .int k0 n0 := by generalize ρ l = z at h0; cases h0; rfl
            have e1 : ρ c = .int k1 n1 := by generalize ρ c = z at h1; cases h1; rfl
            have w0' : IntKind.i64.wrap n0 = n0 := wrap_id (by omega) (by omega)
            have w1' : IntKind.i64.wrap n1 = n1 := wrap_id (by omega) (by omega)
            have hrow : ((Array.range (n1.toNat * i.size)).map ((if n1.toNat * i.size = 0 then #[] else u.cells)[· % (if n1.toNat * i.size = 0 then #[] else u.cells).size]!)).toList = (List.replicate n1.toNat z).flatten := by
              by_cases hz0 : n1.toNat * i.size = 0
              · simp only [hz0, if_true]
                rcases Nat.mul_eq_zero.1 hz0 with hq | hq
                · simp [hq]
                · have : z = [] := List.eq_nil_of_length_eq_zero (by rw [← h3, Array.length_toList, h5]; exact hq)
                  simp [this]
              · simp only [hz0, if_false]
                exact rep_row u.cells z n1.toNat i.size h3 h5
            have hzl : z.length = i.size := by rw [← h3, Array.length_toList, h5]
            refine Runs.new hr (hb rfl) (slice_new ι b _ n0.toNat n1.toNat n1.toNat n1.toNat (Nat.le_refl _) id (Nat.le_refl _)) (row_new hr (C := (Array.range (n1.toNat * i.size)).map ((if n1.toNat * i.size = 0 then #[] else u.cells)[· % (if n1.toNat * i.size = 0 then #[] else u.cells).size]!)) (e := e)
              (by simp [hzl]) (CR.ex' (by rw [hrow]; exact (CR.plain h4).replicate _))) ?_
            have hb1 : ¬ ((i.bytes : Int) * n1 > 281474976710656) := by
              rw [Int.mul_comm]
              omega
            have g1 : ¬ n1 < 0 := by omega
            have g2 : ¬ n0 < 0 := by omega
            have g3 : ¬ n0 > n1 := by omega
            have tl : (decide (n1 < 0) || decide ((i.bytes : Int) * n1 > 281474976710656)) = false := by
              simp only [Bool.or_eq_false_iff, decide_eq_false_iff_not]; exact ⟨g1, hb1⟩
            have hcnd : (decide (n1 < 0) || decide ((i.bytes : Int) * n1 > 2 ^ 48) || decide (n0 < 0) || decide (n0 > n1)) = false := by
              simp only [Bool.or_eq_false_iff, decide_eq_false_iff_not]
              exact ⟨⟨⟨g1, by simpa using hb1⟩, g2⟩, g3⟩
            by_cases hz0 : n1.toNat * i.size = 0
            · simp only [execOp, ho, Instr.makeSlice, Sem.run_bind, run_underlying hu, Result.andThen_ok, asInt, asIntOf, e0, e1, Sem.run_pure, typeInfo, run_program, hi, w0', w1', sizeOf, run_askRoom, hcnd, Bool.false_eq_true, if_false, hz0, if_true]
              simp [newRow, run_newObj]
            · simp only [execOp, ho, Instr.makeSlice, Sem.run_bind, run_underlying hu, Result.andThen_ok, asInt, asIntOf, e0, e1, Sem.run_pure, typeInfo, run_program, hi, w0', w1', sizeOf, run_askRoom, hcnd, Bool.false_eq_true, if_false, hz0, run_zeroValue hi h2]
              simp [newRow, run_newObj]
          · cases hs
    · cases hf
  case slice t x lo hi mx =>
    split at hf
    · rename_i e hu
      simp only [Option.map_eq_some_iff] at hf
      obtain ⟨n, hn, hf⟩ := hf
      cases hf
      cases vs with
      | nil => exact hv.elim
      | cons v0 bs =>
        obtain ⟨h0, hbs⟩ := hv
        cases v0 <;> simp only [sem, reduceCtorEq] at hs
        rename_i a l c
        cases hbn : bndA l c lo.isSome hi.isSome mx.isSome bs with
        | none => simp [hbn] at hs
        | some q =>
          obtain ⟨i, j, m⟩ := q
          simp only [hbn, Option.bind_some] at hs
          split at hs
          · rename_i hcond
            simp only [Option.some.injEq, Prod.mk.injEq] at hs
            obtain ⟨rfl, rfl, rfl⟩ := hs
            have ha : ∃ a' c', ρ x = .slice a' l c' ∧ c ≤ c' ∧ (c = 0 → c' = 0) ∧ ((a = none ∧ a' = none ∧ c' = c) ∨ ∃ p p', a = some p ∧ a' = some p' ∧ (0 < l ∨ 0 < c → AdR ι p p') ∧
                (0 < c → ∀ b' o K, ι p.block = some (b', o, some K) → p.off = 0 → c' ≤ K)) := by
              generalize ρ x = z at h0
              cases h0 with
              | snil => exact ⟨none, c, rfl, Nat.le_refl _, id, .inl ⟨rfl, rfl, rfl⟩⟩
              | slice k1 k2 k3 k4 => exact ⟨_, _, rfl, k1, k2, .inr ⟨_, _, rfl, rfl, k3, k4⟩⟩
            obtain ⟨a', c', e1, e2, e3, e4⟩ := ha
            obtain ⟨r1, r2, r3, r4, r5⟩ := bnd_run (P := P) (w := w) (isS := true) hbn e2 hbs
            refine Runs.val hr (u := .slice (if (if mx.isSome then m else c') = i then a' else a'.map (·.add (i * n))) (j - i) ((if mx.isSome then m else c') - i)) ?_ ?_
            · rcases e4 with ⟨rfl, rfl, rfl⟩ | ⟨p, p', rfl, rfl, e5, e6⟩
              · have : (if mx.isSome then m else c') = m := by cases mx <;> simp_all
                rw [this]
                simp only [Option.map_none, ite_self]
                exact .snil _ _
              · cases mx with
                | some y =>
                  simp only [Option.isSome_some, if_true] at *
                  obtain ⟨r6, r7⟩ := r3 trivial
                  by_cases hmi : m = i
                  · simp only [hmi, if_true]; exact .slice (Nat.le_refl _) id (fun h => by omega) (fun h => by omega)
                  · simp only [if_neg hmi, Option.map_some]
                    refine .slice (Nat.le_refl _) id (fun h => (e5 (by omega)).add _) fun h b' o K hK hz => ?_
                    have := e6 (by omega) b' o K (by rw [← add_block p (i * n)]; exact hK) (add_off hz)
                    omega
                | none =>
                  simp only [Option.isSome_none, Bool.false_eq_true, if_false, or_false] at *
                  obtain rfl := r2 trivial
                  rcases hcond with rfl | hlt
                  · obtain rfl := e3 rfl
                    by_cases hmi : 0 = i
                    · subst hmi; simp only [if_true]; exact .slice (Nat.le_refl _) id (fun h => e5 (by omega)) (fun h => by omega)
                    · simp only [if_neg hmi, Option.map_some]
                      exact .slice (Nat.le_refl _) id (fun h => (e5 (by omega)).add _) (fun h => by omega)
                  · rw [if_neg (by omega), if_neg (by omega)]
                    refine .slice (by omega) (by omega) (fun h => (e5 (by omega)).add _) fun h b' o K hK hz => ?_
                    have := e6 (by omega) b' o K (by rw [← add_block p (i * n)]; exact hK) (add_off hz)
                    omega
            · simp only [execOp, ho, Instr.sliceAt, Sem.run_bind, run_underlying hu, Result.andThen_ok, Instr.slice, e1, r1, run_sizeOf hn, Sem.run_pure]
          · cases hs
    · rename_i k e hu
      simp only [Option.map_eq_some_iff] at hf
      obtain ⟨n, hn, hf⟩ := hf
      cases hf
      cases vs with
      | nil => exact hv.elim
      | cons v0 bs =>
        obtain ⟨h0, hbs⟩ := hv
        cases v0 <;> simp only [sem, reduceCtorEq] at hs
        rename_i p
        cases p <;> simp only [sem, reduceCtorEq] at hs
        rename_i p
        split at hs
        case h_2 => cases hs
        rename_i rw0 cs0 hcell
        simp only [Option.map_eq_some_iff, Prod.mk.injEq] at hs
        obtain ⟨⟨i, j, m⟩, hbn, rfl, rfl, rfl⟩ := hs
        have ha : ∃ p', ρ x = .pointer (some p') ∧ AdR ι p p' := by generalize ρ x = z at h0; cases h0; exact ⟨_, rfl, by assumption⟩
        obtain ⟨p', e1, e2⟩ := ha
        obtain ⟨r1, r2, r3, r4, r5⟩ := bnd_run (P := P) (w := w) (isS := false) hbn (Nat.le_refl _) hbs
        have hm : (if mx.isSome then m else k) = m := by cases mx <;> simp_all
        rw [hm] at r1
        refine Runs.val hr (u := .slice (some (if m = i then p' else p'.add (i * n))) (j - i) (m - i)) ?_ ?_
        · have hno : ∀ b' o K, ι p.block = some (b', o, some K) → False := fun b' o K hK => by
            have := hr.blk _ _ _ hcell hK
            obtain ⟨h0, _⟩ := this
            cases h0
          refine .slice (Nat.le_refl _) id (fun _ => ?_) fun _ b' o K hK _ => (hno b' o K ?_).elim
          · split
            · exact e2
            · exact e2.add _
          · split at hK
            · exact hK
            · rwa [add_block] at hK
        · simp only [execOp, ho, Instr.sliceAt, Sem.run_bind, run_underlying hu, Result.andThen_ok, e1, Instr.sureAddr, r1, run_sizeOf hn, Sem.run_pure]
    · cases hf
  case fieldAddr t x i =>
    split at hf
    · rename_i fs hu
      cases hfi : fs[i]? with
      | none => simp [hfi] at hf
      | some f =>
        cases hn : sizeC P f.type with
        | none => simp [hfi, hn] at hf
        | some n =>
          simp only [hfi, hn, Option.bind_eq_bind, Option.bind_some] at hf
          split at hf
          · cases hf
          · rename_i hn0
            cases hf
            obtain ⟨v0, rfl, h0⟩ := hv.one
            cases v0 <;> simp only [sem, reduceCtorEq] at hs
            rename_i p
            cases p <;> simp only [sem, reduceCtorEq] at hs
            rename_i p
            simp only [Option.some.injEq, Prod.mk.injEq] at hs
            obtain ⟨rfl, rfl, rfl⟩ := hs
            have ha : ∃ p', ρ x = .pointer (some p') ∧ AdR ι p p' := by generalize ρ x = z at h0; cases h0; exact ⟨_, rfl, by assumption⟩
            obtain ⟨p', e1, e2⟩ := ha
            refine Runs.val hr (.ptr (e2.add f.offset)) ?_
            simp [execOp, ho, Instr.fieldAt, run_underlying hu, hfi, e1, Instr.sureAddr, fieldPlace, run_sizeOf hn, hn0]
    · cases hf
  case field t x i =>
    split at hf
    · rename_i fs hu
      cases hfi : fs[i]? with
      | none => simp [hfi] at hf
      | some f =>
        cases hn : sizeC P f.type with
        | none => simp [hfi, hn] at hf
        | some n =>
          cases hg : aggC P f.type with
          | none => simp [hfi, hn, hg] at hf
          | some g =>
            simp only [hfi, hn, hg, Option.bind_eq_bind, Option.bind_some, Option.some.injEq, Prod.mk.injEq] at hf
            obtain ⟨rfl, rfl⟩ := hf
            obtain ⟨v0, rfl, h0⟩ := hv.one
            cases v0 <;> simp only [sem, reduceCtorEq] at hs
            rename_i cs
            have ha : ∃ cs', ρ x = .agg cs' ∧ VR ι (.agg cs) (.agg cs') := by generalize ρ x = z at h0; cases h0; exact ⟨_, rfl, .agg (by assumption) (by assumption)⟩
            obtain ⟨cs', e1, e2⟩ := ha
            have c := VR.agg_to e2
            cases g with
            | true =>
              simp only [if_true] at hs
              split at hs
              · rename_i hle
                simp only [Option.some.injEq, Prod.mk.injEq] at hs
                obtain ⟨rfl, rfl, rfl⟩ := hs
                refine Runs.val hr (u := .agg (cs'.extract f.offset (f.offset + n))) ?_ (by simp [execOp, ho, Instr.field, run_underlying hu, hfi, e1, asAgg, part, run_isAgg hg, run_sizeOf hn])
                exact VR.agg_ext e2 _ _
              · cases hs
            | false =>
              simp only [Bool.false_eq_true, if_false, Option.map_eq_some_iff, Prod.mk.injEq] at hs
              obtain ⟨u, hu', rfl, rfl, rfl⟩ := hs
              obtain ⟨u', k1, k2⟩ := c.ex f.offset u (by simpa using hu')
              have k1' : cs'[f.offset]? = some u' := by simpa using k1
              exact Runs.val hr k2 (by simp [execOp, ho, Instr.field, run_underlying hu, hfi, e1, asAgg, part, run_isAgg hg, k1'])
    · cases hf
  case indexAddr t x i =>
    split at hf
    · rename_i e hu
      simp only [Option.map_eq_some_iff] at hf
      obtain ⟨n, hn, hf⟩ := hf
      cases hf
      obtain ⟨v0, v1, rfl, h0, h1⟩ := hv.two
      cases v0 <;> (try simp only [sem, reduceCtorEq] at hs)
      rename_i a l c
      cases a <;> (try simp only [sem, reduceCtorEq] at hs)
      rename_i p
      cases v1 <;> (try simp only [sem, reduceCtorEq] at hs)
      rename_i k z
      split at hs
      · rename_i hcond
        simp only [Option.some.injEq, Prod.mk.injEq] at hs
        obtain ⟨rfl, rfl, rfl⟩ := hs
        have ha : ∃ p' c', ρ x = .slice (some p') l c' ∧ AdR ι p p' := by
          generalize ρ x = z at h0
          cases h0 with | slice _ _ k3 _ => exact ⟨_, _, rfl, k3 (by omega)⟩
        obtain ⟨p', c', e1, e2⟩ := ha
        have e3 := OpsR.int1 h1
        exact Runs.val hr (.ptr (e2.add _)) (by simp [execOp, ho, Instr.indexAt, e1, e3, asIntOf, run_underlying hu, hcond.1, hcond.2, run_sizeOf hn])
      · cases hs
    · rename_i k e hu
      simp only [Option.map_eq_some_iff] at hf
      obtain ⟨n, hn, hf⟩ := hf
      cases hf
      obtain ⟨v0, v1, rfl, h0, h1⟩ := hv.two
      cases v0 <;> (try simp only [sem, reduceCtorEq] at hs)
      rename_i p
      cases p <;> (try simp only [sem, reduceCtorEq] at hs)
      rename_i p
      cases v1 <;> (try simp only [sem, reduceCtorEq] at hs)
      rename_i kk z
      split at hs
      · rename_i hcond
        simp only [Option.some.injEq, Prod.mk.injEq] at hs
        obtain ⟨rfl, rfl, rfl⟩ := hs
        have ha : ∃ p', ρ x = .pointer (some p') ∧ AdR ι p p' := by generalize ρ x = z at h0; cases h0; exact ⟨_, rfl, by assumption⟩
        obtain ⟨p', e1, e2⟩ := ha
        have e3 := OpsR.int1 h1
        exact Runs.val hr (.ptr (e2.add _)) (by simp [execOp, ho, Instr.indexAt, e1, e3, asIntOf, run_underlying hu, hcond.1, hcond.2, run_sizeOf hn, Instr.sureAddr])
      · cases hs
    · cases hf
  case index t x i =>
    split at hf
    · rename_i k e hu
      cases hn : sizeC P e with
      | none => simp [hn] at hf
      | some n =>
        cases hg : aggC P e with
        | none => simp [hn, hg] at hf
        | some g =>
          simp only [hn, hg, Option.bind_eq_bind, Option.bind_some, Option.some.injEq, Prod.mk.injEq] at hf
          obtain ⟨rfl, rfl⟩ := hf
          obtain ⟨v0, v1, rfl, h0, h1⟩ := hv.two
          cases v0 <;> (try simp only [sem, reduceCtorEq] at hs)
          rename_i cs
          cases v1 <;> (try simp only [sem, reduceCtorEq] at hs)
          rename_i kk z
          split at hs
          · rename_i hcond
            have ha : ∃ cs', ρ x = .agg cs' ∧ VR ι (.agg cs) (.agg cs') := by generalize ρ x = z at h0; cases h0; exact ⟨_, rfl, .agg (by assumption) (by assumption)⟩
            obtain ⟨cs', e1, e2⟩ := ha
            have c := VR.agg_to e2
            have e3 := OpsR.int1 h1
            cases g with
            | true =>
              simp only [if_true] at hs
              split at hs
              · simp only [Option.some.injEq, Prod.mk.injEq] at hs
                obtain ⟨rfl, rfl, rfl⟩ := hs
                exact Runs.val hr (VR.agg_ext e2 _ _) (by simp [execOp, ho, Instr.index, e1, e3, asIntOf, run_underlying hu, hcond.1, hcond.2, part, run_isAgg hg, run_sizeOf hn])
              · cases hs
            | false =>
              simp only [Bool.false_eq_true, if_false, Option.map_eq_some_iff, Prod.mk.injEq] at hs
              obtain ⟨u, hu', rfl, rfl, rfl⟩ := hs
              obtain ⟨u', k1, k2⟩ := c.ex _ u (by simpa using hu')
              have k1' : cs'[z.toNat * n]? = some u' := by simpa using k1
              exact Runs.val hr k2 (by simp [execOp, ho, Instr.index, e1, e3, asIntOf, run_underlying hu, hcond.1, hcond.2, part, run_isAgg hg, run_sizeOf hn, k1'])
          · cases hs
    · cases hf
  case extract t i =>
    cases hf
    obtain ⟨v0, rfl, h0⟩ := hv.one
    cases v0 <;> simp only [sem, reduceCtorEq] at hs
    rename_i ts
    simp only [Option.map_eq_some_iff, Prod.mk.injEq] at hs
    obtain ⟨u, hu, rfl, rfl, rfl⟩ := hs
    have ha : ∃ ts', ρ t = .tuple ts' ∧ ts.size = ts'.size ∧ ∀ (i : Nat) (v v' : Value), ts[i]? = some v → ts'[i]? = some v' → VR ι v v' := by
      generalize ρ t = z at h0; cases h0; exact ⟨_, rfl, by assumption, by assumption⟩
    obtain ⟨ts', e1, e2, e3⟩ := ha
    have hlt : i < ts'.size := by rw [← e2]; exact (Array.getElem?_eq_some_iff.1 hu).1
    have e4 : ts'[i]? = some ts'[i] := Array.getElem?_eq_getElem hlt
    exact Runs.val hr (e3 i u _ hu e4) (by simp [execOp, ho, e1, Instr.extract, e4])
  case lookup t x i ok =>
    split at hf
    · rename_i kt e hu
      cases hkd : P.underlying kt with
      | none => simp [hkd] at hf
      | some kd =>
        cases hi : P.info? e with
        | none => simp [hkd, hi] at hf
        | some inf =>
          cases hz : inf.zero with
          | none => simp [hkd, hi, hz] at hf
          | some z =>
            simp only [hkd, hi, hz, Option.bind_eq_bind, Option.bind_some] at hf
            split at hf
            · split at hf
              · rename_i hp
                cases hf
                exact lookup_sound (int := true) ho hu hkd trivial hi hz hp hv hr hs
              · cases hf
            · split at hf
              · rename_i hp
                cases hf
                exact lookup_sound (int := false) ho hu hkd trivial hi hz hp hv hr hs
              · cases hf
            · cases hf
    · cases hf
  case mapUpdate t m k x =>
    split at hf
    · rename_i kt e hu
      split at hf
      · rename_i hkd; cases hf; exact update_sound (int := true) (.inl ho) hu hkd trivial hv hr hs
      · rename_i hkd; cases hf; exact update_sound (int := false) (.inl ho) hu hkd trivial hv hr hs
      · cases hf
    · cases hf
  case insert t m k x =>
    split at hf
    · rename_i kt e hu
      split at hf
      · rename_i hkd; cases hf; exact update_sound (int := true) (.inr ho) hu hkd trivial hv hr hs
      · rename_i hkd; cases hf; exact update_sound (int := false) (.inr ho) hu hkd trivial hv hr hs
      · cases hf
    · cases hf
  case call c =>
    unfold flatCall at hf
    split at hf
    · cases hf; simp [sem] at hs
    · cases hf; simp [sem] at hs
    · cases hf; simp [sem] at hs
    · rename_i hcl
      cases ht : c.argTypes[0]? with
      | none => simp [ht] at hf
      | some t =>
        simp only [ht, Option.bind_eq_bind, Option.bind_some] at hf
        split at hf
        · rename_i e hu
          split at hf
          · rename_i hsz
            simp only [Option.some.injEq, Prod.mk.injEq] at hf
            obtain ⟨rfl, rfl⟩ := hf
            obtain ⟨x, hx⟩ : ∃ x, c.args = #[x] := Array.size_eq_one_iff.1 hsz
            rw [hx] at hv
            obtain ⟨v0, rfl, h0⟩ := OpsR.one hv
            cases v0 <;> (try simp only [sem, reduceCtorEq] at hs)
            rename_i a n cp
            simp only [Option.some.injEq, Prod.mk.injEq] at hs
            obtain ⟨rfl, rfl, rfl⟩ := hs
            have ha : ∃ a' c', ρ x = .slice a' n c' := by generalize ρ x = y at h0; cases h0 <;> exact ⟨_, _, rfl⟩
            obtain ⟨a', c', e0⟩ := ha
            exact Runs.val hr (.int _ _) (by simp [execOp, ho, resolve, hcl, hx, invoke, builtin, Builtin.len_, ht, run_underlying hu, e0, goInt])
          · cases hf
        · rename_i k e hu
          split at hf
          · rename_i hsz
            simp only [Option.some.injEq, Prod.mk.injEq] at hf
            obtain ⟨rfl, rfl⟩ := hf
            obtain ⟨x, hx⟩ : ∃ x, c.args = #[x] := Array.size_eq_one_iff.1 hsz
            rw [hx] at hv
            obtain ⟨v0, rfl, h0⟩ := OpsR.one hv
            simp only [sem, Option.some.injEq, Prod.mk.injEq] at hs
            obtain ⟨rfl, rfl, rfl⟩ := hs
            exact Runs.val hr (.int _ _) (by simp [execOp, ho, resolve, hcl, hx, invoke, builtin, Builtin.len_, ht, run_underlying hu, goInt])
          · cases hf
        · cases hf
    · cases ht : c.argTypes[0]? with
      | none => simp [ht] at hf
      | some t =>
        cases ht2 : c.argTypes[1]? with
        | none => simp [ht, ht2] at hf
        | some t2 =>
          simp only [ht, ht2, Option.bind_eq_bind, Option.bind_some] at hf
          split at hf
          · simp only [Option.bind_eq_some_iff] at hf
            obtain ⟨i, _, z, _, hf⟩ := hf
            split at hf
            · cases hf; simp [sem] at hs
            · cases hf
          · cases hf
    · cases ht : c.argTypes[0]? with
      | none => simp [ht] at hf
      | some t =>
        simp only [ht, Option.bind_eq_bind, Option.bind_some] at hf
        split at hf
        · rename_i e hu
          cases hn : sizeC P e with
          | none => simp [hn] at hf
          | some n =>
            simp only [hn, Option.bind_some] at hf
            split at hf
            · cases hf; simp [sem] at hs
            · cases hf
        · cases hf
    · rename_i hcl
      split at hf
      · cases hf
      · cases hf
        exact mm_sound false ho (.inl ⟨rfl, hcl⟩) hv hr hs
    · rename_i hcl
      split at hf
      · cases hf
      · cases hf
        exact mm_sound true ho (.inr ⟨rfl, hcl⟩) hv hr hs
    · cases hf

end
end Go.Pw
