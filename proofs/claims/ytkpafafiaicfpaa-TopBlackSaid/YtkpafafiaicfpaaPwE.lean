/- The abstract logic in which the functions of the program are walked, part 5. No condition. -/
import Derived.Test.YtkpafafiaicfpaaPwD
set_option linter.unusedSimpArgs false
set_option linter.unusedVariables false
set_option linter.unusedSectionVars false
/-! The abstract logic, part E: the soundness of 'sem'. -/
namespace Go.Pw
open Go.RowKit (Below)

section
variable {FC : Nat → Code → Option AC} {P : Program} {w0 : Fr} {w : World} {ι : Inj} {h : AH}

/-- What an operation has given: a value, a new block, the old ones. -/
def Gives (FC : Nat → Code → Option AC) (w0 : Fr) (ι : Inj) (b : Nat) (v : Value) (nb : Option Blk) (h' : AH) (u : Value) (w' : World) : Prop :=
  ∃ ι', (ι' = ι ∨ (nb.isSome = true ∧ ∃ x, ι' = ι.upd b x)) ∧ VR ι' v u ∧
    ∀ H : AH, (∀ c x, ι c = some x → c < H.length) → (∀ (c : Nat) (l : Blk), H[c]? = some l → l.live = true → ι c ≠ none → h'[c]? = some l) → (∀ k, nb = some k → H[b]? = some k) → HR FC w0 ι' H w'

theorem Gives.same (hr : HR FC w0 ι h w) {b : Nat} {v u : Value} (hv : VR ι v u) : Gives FC w0 ι b v none h u w :=
  ⟨ι, .inl rfl, hv, fun H h1 h2 _ => hr.weaken h1 fun c l x e hl hx => h2 c l e hl (by rw [hx]; simp)⟩

theorem Gives.lay (hr : HR FC w0 ι h w) {b : Nat} (hb : ι b = none) {v u : Value} {k : Blk} {x : Obj} {K : Option Nat} (hv : VR (ι.upd b (w.heap.size, 0, K)) v u)
    (hB : BlkR FC ι w0.heap.size (w.heap.size, 0, K) k (some x)) : Gives FC w0 ι b v (some k) h u { w with heap := w.heap.push x } :=
  ⟨_, .inr ⟨rfl, _, rfl⟩, hv, fun H h1 h2 h3 => HR.lay (hr.weaken h1 fun c l x e hl hx => h2 c l e hl (by rw [hx]; simp)) hb (h3 k rfl) hB⟩

/-- New cells. -/
theorem blk_new (hr : HR FC w0 ι h w) {cs : List Value} {C : Array Value} {e : TypeId} (hc : CR ι cs C.toList) :
    BlkR FC ι w0.heap.size (w.heap.size, 0, none) (.cells true cs) (some (.cells C e)) :=
  ⟨rfl, C, e, (0, 0), rfl, fun i v hv => by obtain ⟨v', h1, h2⟩ := hc.ex i v hv; exact ⟨v', by simpa using h1, h2⟩, fun _ => ⟨rfl, hr.below.size, rfl⟩⟩
/-- A new row. -/
theorem row_new (hr : HR FC w0 ι h w) {cs : List Value} {C : Array Value} {e : TypeId} {K s : Nat} (hC : C.size = K * s) (hc : ∀ (i : Nat) (v : Value), cs[i]? = some v → ∃ v', C[i]? = some v' ∧ VR ι v v') :
    BlkR FC ι w0.heap.size (w.heap.size, 0, some K) (.row s cs) (some (.cells C e)) :=
  ⟨rfl, hr.below.size, C, e, K, rfl, rfl, hC, hc⟩
theorem CR.ex' {ι : Inj} {x : List Value} {x' : Array Value} (h : CR ι x x'.toList) (i : Nat) (v : Value) (e : x[i]? = some v) : ∃ v', x'[i]? = some v' ∧ VR ι v v' := by
  obtain ⟨v', h1, h2⟩ := h.ex i v e
  exact ⟨v', by simpa using h1, h2⟩

theorem ptr_new (ι : Inj) (b n : Nat) : VR (ι.upd b (n, 0, none)) (.pointer (some ⟨b, 0, none⟩)) (.pointer (some ⟨n, 0, none⟩)) :=
  .ptr ⟨rfl, rfl, 0, none, by simp [Inj.upd], rfl⟩
theorem slice_new (ι : Inj) (b n l c c' K : Nat) (h1 : c ≤ c') (h2 : c = 0 → c' = 0) (h3 : c' ≤ K) : VR (ι.upd b (n, 0, some K)) (.slice (some ⟨b, 0, none⟩) l c) (.slice (some ⟨n, 0, none⟩) l c') :=
  .slice h1 h2 (fun _ => ⟨rfl, rfl, 0, some K, by simp [Inj.upd], rfl⟩) fun _ b' o K' e _ => by simp [Inj.upd] at e; omega

/-! ### fill -/
theorem foldl_set (v : Array Value) (off : Nat) (cs : Array Value) (hl : off + v.size ≤ cs.size) :
    (v.zipIdx.foldl (fun cs (c, j) => cs.setIfInBounds (off + j) c) cs).toList = spl cs.toList off v.toList := by
  obtain ⟨l⟩ := v
  rw [← Array.foldl_toList]
  have key : ∀ (l : List Value) (k : Nat) (cs : Array Value), (List.foldl (fun (cs : Array Value) (x : Value × Nat) => cs.setIfInBounds (off + x.2) x.1) cs (l.zipIdx k)).toList = spl cs.toList (off + k) l := by
    intro l
    induction l with
    | nil => intro k cs; rfl
    | cons x l ih =>
      intro k cs
      simp only [List.zipIdx_cons, List.foldl_cons, spl]
      rw [ih]
      simp [Nat.add_assoc]
  simpa using key l 0 cs

theorem fill_sound {ρ : Operand → Value} (place : Nat → Option (Nat × Nat)) : ∀ (ps : List (Nat × Operand)) (pl : List (Nat × Nat)) (vs cs rs : List Value) (C : Array Value),
    ps.mapM (fun x => place x.1) = some pl → OpsR ι ρ (ps.map (·.2)) vs → CR ι cs C.toList → fillA cs pl vs = some rs →
    ∃ R, Instr.fill place C (ps.map fun x => (x.1, ρ x.2)) = some R ∧ CR ι rs R.toList
  | [], pl, vs, cs, rs, C, hp, hv, hc, hf => by
    simp at hp
    subst hp
    cases vs with
    | nil => simp [fillA] at hf; subst hf; exact ⟨C, rfl, hc⟩
    | cons v vs => simp [OpsR] at hv
  | (i, x) :: ps, pl, vs, cs, rs, C, hp, hv, hc, hf => by
    cases vs with
    | nil => simp [OpsR] at hv
    | cons v vs =>
      simp only [List.mapM_cons] at hp
      cases hpi : place i with
      | none => simp [hpi] at hp
      | some on =>
        obtain ⟨o, n⟩ := on
        cases hrest : ps.mapM (fun x => place x.1) with
        | none => simp [hpi, hrest] at hp
        | some pl' =>
          simp only [hpi, hrest, Option.bind_eq_bind, Option.bind_some, Option.pure_def, Option.some.injEq] at hp
          subst hp
          simp only [List.map_cons, OpsR] at hv
          obtain ⟨hv0, hv⟩ := hv
          simp only [fillA] at hf
          split at hf
          · rename_i hcond
            obtain ⟨hn, hle⟩ := hcond
            have hk := hv0.cells
            have hsz : (ρ x).cells.size = n := by have := hk.1; simp [cel] at this hn; omega
            have hCs : C.size = cs.length := by have := hc.1; simp at this; omega
            have hfold := foldl_set (ρ x).cells o C (by omega)
            obtain ⟨R, h1, h2⟩ := fill_sound place ps pl' vs _ rs ((ρ x).cells.zipIdx.foldl (fun cs (c, j) => cs.setIfInBounds (o + j) c) C) hrest hv (by rw [hfold]; exact hc.spl o hk) hf
            refine ⟨R, ?_, h2⟩
            simp only [List.map_cons, Instr.fill, hpi]
            rw [if_neg (by simp only [Bool.or_eq_true, decide_eq_true_eq]; omega)]
            exact h1
          · cases hf

/-! ### Equality -/
theorem eqCells_inv {ks : List Bool} {xs ys : List Value} {r : Bool} (h : eqCells ks xs ys = some r) :
    (ks = [] ∧ xs = [] ∧ ys = [] ∧ r = true) ∨
    (∃ ks' k a xs' b ys' q, ks = true :: ks' ∧ xs = .int k a :: xs' ∧ ys = .int k b :: ys' ∧ eqCells ks' xs' ys' = some q ∧ r = ((a == b) && q)) ∨
    (∃ ks' a xs' b ys' q, ks = false :: ks' ∧ xs = .bool a :: xs' ∧ ys = .bool b :: ys' ∧ eqCells ks' xs' ys' = some q ∧ r = ((a == b) && q)) := by
  unfold eqCells at h
  split at h
  · cases h; exact .inl ⟨rfl, rfl, rfl, rfl⟩
  · split at h
    · rename_i hk
      subst hk
      simp only [Option.map_eq_some_iff] at h
      obtain ⟨q, h1, h2⟩ := h
      exact .inr (.inl ⟨_, _, _, _, _, _, q, rfl, rfl, rfl, h1, h2.symm⟩)
    · cases h
  · simp only [Option.map_eq_some_iff] at h
    obtain ⟨q, h1, h2⟩ := h
    exact .inr (.inr ⟨_, _, _, _, _, q, rfl, rfl, rfl, h1, h2.symm⟩)
  · cases h

theorem eqCells_length : ∀ (ks : List Bool) (a b : List Value) (r : Bool), eqCells ks a b = some r → a.length = ks.length ∧ b.length = ks.length
  | ks, a, b, r, h => by
    rcases eqCells_inv h with ⟨rfl, rfl, rfl, _⟩ | ⟨ks', k, x, a', y, b', q, rfl, rfl, rfl, h1, _⟩ | ⟨ks', x, a', y, b', q, rfl, rfl, rfl, h1, _⟩
    · exact ⟨rfl, rfl⟩
    · have := eqCells_length ks' a' b' q h1; simp [this.1, this.2]
    · have := eqCells_length ks' a' b' q h1; simp [this.1, this.2]
termination_by ks => ks.length

theorem eqCells_split : ∀ (ks ls : List Bool) (a b c d : List Value) (r : Bool), a.length = ks.length → b.length = ks.length → eqCells (ks ++ ls) (a ++ c) (b ++ d) = some r →
    ∃ r1 r2, eqCells ks a b = some r1 ∧ eqCells ls c d = some r2 ∧ r = (r1 && r2)
  | [], ls, a, b, c, d, r, ha, hb, h => by
    obtain rfl : a = [] := List.eq_nil_of_length_eq_zero (by simpa using ha)
    obtain rfl : b = [] := List.eq_nil_of_length_eq_zero (by simpa using hb)
    exact ⟨true, r, rfl, h, by simp⟩
  | k :: ks, ls, a, b, c, d, r, ha, hb, h => by
    cases a with
    | nil => simp at ha
    | cons x a =>
      cases b with
      | nil => simp at hb
      | cons y b =>
        simp only [List.cons_append] at h
        rcases eqCells_inv h with ⟨h1, _⟩ | ⟨ks', k', x', a', y', b', q, e1, e2, e3, h1, h2⟩ | ⟨ks', x', a', y', b', q, e1, e2, e3, h1, h2⟩
        · cases h1
        · cases e1; cases e2; cases e3
          obtain ⟨r1, r2, k1, k2, k3⟩ := eqCells_split ks ls a b c d q (by simpa using ha) (by simpa using hb) h1
          exact ⟨(x' == y') && r1, r2, by simp only [eqCells, k1, Option.map_some, if_true], k2, by rw [h2, k3, Bool.and_assoc]⟩
        · cases e1; cases e2; cases e3
          obtain ⟨r1, r2, k1, k2, k3⟩ := eqCells_split ks ls a b c d q (by simpa using ha) (by simpa using hb) h1
          exact ⟨(x' == y') && r1, r2, by simp only [eqCells, k1, Option.map_some], k2, by rw [h2, k3, Bool.and_assoc]⟩

theorem flatEq_len : ∀ (d : Nat) (t : TypeId) (ks : List Bool), flatEq P d t = some ks → sizeC P t = some ks.length
  | 0, t, ks, h => by simp [flatEq] at h
  | d + 1, t, ks, h => by
    have tl : ∀ (fs : List Field) (o m : Nat) (ks : List Bool), tilesG P (flatEq P d) fs o = some (m, ks) → m = o + ks.length := by
      intro fs
      induction fs with
      | nil => intro o m ks h; simp [tilesG] at h; obtain ⟨rfl, rfl⟩ := h; rfl
      | cons f fs ih =>
        intro o m ks h
        simp only [tilesG] at h
        split at h
        · cases hf : flatEq P d f.type with
          | none => simp [hf] at h
          | some k1 =>
            have hs := flatEq_len d f.type k1 hf
            simp only [hf, hs, Option.bind_some] at h
            split at h
            · cases h
            · simp only [Option.map_eq_some_iff] at h
              obtain ⟨⟨m', l'⟩, h1, h2⟩ := h
              cases h2
              have := ih _ _ _ h1
              simp; omega
        · cases h
    cases hu : P.underlying t with
    | none => simp [flatEq, hu] at h
    | some k =>
      cases k <;> simp only [flatEq, hu, reduceCtorEq] at h
      case bool => split at h <;> simp at h; rename_i hs; simp at hs; subst h; exact hs
      case int => split at h <;> simp at h; rename_i hs; simp at hs; subst h; exact hs
      case struct fs =>
        split at h
        · cases h
        · cases ht : tilesG P (flatEq P d) fs.toList 0 with
          | none => simp [ht] at h
          | some x =>
            obtain ⟨n, l⟩ := x
            simp only [ht, Option.bind_some] at h
            split at h
            · rename_i hs
              cases h
              have := tl _ _ _ _ ht
              simp at hs
              rw [hs, this]; simp
            · cases h

/-- A part of a value whose cells are compared. -/
theorem part_cells {t : TypeId} {d : Nat} {ks : List Bool} (hf : flatEq P d t = some ks) (xs : Array Value) (o : Nat) (hl : o + ks.length ≤ xs.size) (w : World) :
    ∃ v, (part t xs o).run P w = .ok v w ∧ ((∃ fs, P.underlying t = some (.struct fs)) → v = .agg ((xs.toList.drop o).take ks.length).toArray) ∧
      (¬ (∃ fs, P.underlying t = some (.struct fs)) → (xs.toList.drop o).take ks.length = [v]) := by
  have hs := flatEq_len d t ks hf
  cases d with
  | zero => simp [flatEq] at hf
  | succ d =>
    cases hu : P.underlying t with
    | none => simp [flatEq, hu] at hf
    | some k =>
      cases k <;> simp only [flatEq, hu, reduceCtorEq] at hf
      case struct fs =>
        have hg : aggC P t = some true := by simp [aggC, hu]
        refine ⟨.agg (xs.extract o (o + ks.length)), by simp [part, run_isAgg hg, run_sizeOf hs], fun _ => ?_, fun h => absurd ⟨fs, rfl⟩ h⟩
        congr 1
        apply Array.ext'
        simp [List.extract_eq_take_drop]
      all_goals
        split at hf
        · cases hf
          have hg : aggC P t = some false := by simp [aggC, hu]
          have hx : xs[o]? = some xs[o] := Array.getElem?_eq_getElem (by simp at hl; omega)
          refine ⟨xs[o]'(by simp at hl; omega), by simp [part, run_isAgg hg, hx], fun ⟨fs, h⟩ => by simp at h, fun _ => ?_⟩
          rw [List.drop_eq_getElem_cons (by simp at hl ⊢; omega)]
          simp
        · cases hf

theorem flatEq_sound : ∀ (d : Nat) (t : TypeId) (ks : List Bool), flatEq P d t = some ks → ∀ (e : Nat), d ≤ e → ∀ (x y : Value) (r : Bool) (w : World), eqCells ks (cel x) (cel y) = some r →
    ((∃ fs, P.underlying t = some (.struct fs)) → ∃ a b, x = .agg a ∧ y = .agg b) → (¬ (∃ fs, P.underlying t = some (.struct fs)) → cel x = [x] ∧ cel y = [y]) → (Op.equalIn e t x y).run P w = .ok r w
  | 0, t, ks, hf, _, _, _, _, _, _, _, _, _ => by simp [flatEq] at hf
  | d + 1, t, ks, hf, e, hde, x, y, r, w, he, hag, hno => by
    obtain ⟨e, rfl⟩ : ∃ m, e = m + 1 := ⟨e - 1, by omega⟩
    have hlen0 := flatEq_len _ _ _ hf
    cases hu : P.underlying t with
    | none => simp [flatEq, hu] at hf
    | some k =>
      cases k <;> simp only [flatEq, hu, reduceCtorEq] at hf
      case bool =>
        obtain ⟨h1, h2⟩ := hno (fun ⟨fs, h⟩ => by rw [hu] at h; cases h)
        split at hf
        · cases hf
          rw [h1, h2] at he
          rcases eqCells_inv he with ⟨h, _⟩ | ⟨ks', k', x', a', y', b', q, e1, e2, e3, h1, h2⟩ | ⟨ks', x', a', y', b', q, e1, e2, e3, h1, h2⟩
          · cases h
          · cases e1
          · cases e1; cases e2; cases e3
            simp [eqCells] at h1
            subst h1
            rw [run_equalIn_bool' w e t x' y' hu, h2]
            simp
        · cases hf
      case int k =>
        obtain ⟨h1, h2⟩ := hno (fun ⟨fs, h⟩ => by rw [hu] at h; cases h)
        split at hf
        · cases hf
          rw [h1, h2] at he
          rcases eqCells_inv he with ⟨h, _⟩ | ⟨ks', k', x', a', y', b', q, e1, e2, e3, h1, h2⟩ | ⟨ks', x', a', y', b', q, e1, e2, e3, h1, h2⟩
          · cases h
          · cases e1; cases e2; cases e3
            simp [eqCells] at h1
            subst h1
            rw [run_equalIn_int w e t k' k x' y' hu, h2]
            simp
          · cases e1
        · cases hf
      case struct fs =>
        split at hf
        · cases hf
        · rename_i hst
          cases ht : tilesG P (flatEq P d) fs.toList 0 with
          | none => simp [ht] at hf
          | some z =>
            obtain ⟨n, l⟩ := z
            simp only [ht, Option.bind_some] at hf
            split at hf
            · cases hf
              obtain ⟨a, b, rfl, rfl⟩ := hag ⟨fs, hu⟩
              have hfo : P.fieldsOf t = fs := by simp [Program.fieldsOf, hu]
              rw [run_equalIn_struct w e t a b (by rw [hfo]; exact hu) (by simpa using hst), hfo]
              have hlen := eqCells_length _ _ _ _ he
              simp only [cel, Value.cells, Array.length_toList] at hlen he
              have key : ∀ (fs : List Field) (o m : Nat) (ls : List Bool) (r : Bool), tilesG P (flatEq P d) fs o = some (m, ls) → eqCells ls (a.toList.drop o) (b.toList.drop o) = some r → (Op.eqFields e a b fs).run P w = .ok r w := by
                intro fs
                induction fs with
                | nil =>
                  intro o m ls r ht hr
                  simp [tilesG] at ht
                  obtain ⟨rfl, rfl⟩ := ht
                  rcases eqCells_inv hr with ⟨_, _, _, rfl⟩ | ⟨_, _, _, _, _, _, _, h, _⟩ | ⟨_, _, _, _, _, _, h, _⟩
                  · rfl
                  · cases h
                  · cases h
                | cons f fs ih =>
                  intro o m ls r ht hr
                  simp only [tilesG] at ht
                  split at ht
                  · rename_i hc
                    simp only [Bool.and_eq_true, bne_iff_ne, beq_iff_eq] at hc
                    obtain ⟨hn, hoff⟩ := hc
                    cases hfl : flatEq P d f.type with
                    | none => simp [hfl] at ht
                    | some k1 =>
                      have hs := flatEq_len d f.type k1 hfl
                      simp only [hfl, hs, Option.bind_some] at ht
                      split at ht
                      · cases ht
                      rename_i hz
                      simp only [Option.map_eq_some_iff] at ht
                      obtain ⟨⟨m', l'⟩, ht, h2⟩ := ht
                      cases h2
                      have hll := eqCells_length _ _ _ _ hr
                      simp only [List.length_drop, Array.length_toList, List.length_append] at hll
                      have e1 : a.toList.drop o = (a.toList.drop o).take k1.length ++ a.toList.drop (o + k1.length) := by rw [← List.drop_drop, List.take_append_drop]
                      have e2 : b.toList.drop o = (b.toList.drop o).take k1.length ++ b.toList.drop (o + k1.length) := by rw [← List.drop_drop, List.take_append_drop]
                      rw [e1, e2] at hr
                      obtain ⟨r1, r2, k1', k2, k3⟩ := eqCells_split _ _ _ _ _ _ _ (by simp; omega) (by simp; omega) hr
                      · obtain ⟨u, hu1, hu2, hu3⟩ := part_cells hfl a o (by omega) w
                        obtain ⟨v, hv1, hv2, hv3⟩ := part_cells hfl b o (by omega) w
                        have hq := flatEq_sound d f.type k1 hfl e (by omega) u v r1 w
                          (by by_cases hst : ∃ fs, P.underlying f.type = some (.struct fs)
                              · rw [hu2 hst, hv2 hst]; simpa [cel, Value.cells] using k1'
                              · have h1 := hu3 hst
                                have h2 := hv3 hst
                                rw [h1, h2] at k1'
                                have hcu : cel u = [u] := by
                                  rcases eqCells_inv k1' with ⟨_, h, _⟩ | ⟨_, _, _, _, _, _, _, _, h, _⟩ | ⟨_, _, _, _, _, _, _, h, _⟩ <;> cases h <;> rfl
                                have hcv : cel v = [v] := by
                                  rcases eqCells_inv k1' with ⟨_, h, _⟩ | ⟨_, _, _, _, _, _, _, _, _, h, _⟩ | ⟨_, _, _, _, _, _, _, _, h, _⟩ <;> cases h <;> rfl
                                rw [hcu, hcv]; exact k1')
                          (fun hh => ⟨_, _, hu2 hh, hv2 hh⟩)
                          (fun hh => by
                            have h1 := hu3 hh
                            have h2 := hv3 hh
                            rw [h1, h2] at k1'
                            rcases eqCells_inv k1' with ⟨_, h, _⟩ | ⟨_, _, _, _, _, _, _, _, h, h', _⟩ | ⟨_, _, _, _, _, _, _, h, h', _⟩ <;> cases h <;> cases h' <;> exact ⟨rfl, rfl⟩)
                        simp only [Op.eqFields, hoff, if_pos hn, Sem.run_bind, hu1, hv1, hq, Result.andThen_ok]
                        cases r1 with
                        | false => simp [k3]
                        | true => simp only [Bool.not_true, Bool.false_eq_true, if_false]; rw [ih _ _ _ r2 ht k2, k3]; rfl
                  · cases ht
              exact key fs.toList 0 _ _ r ht (by simpa using he)
            · cases hf

end
end Go.Pw
