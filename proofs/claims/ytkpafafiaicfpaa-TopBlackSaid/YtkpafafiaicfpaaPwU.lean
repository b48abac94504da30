/- The abstract logic in which the functions of the program are walked, part 21. No condition. -/
import Derived.Test.YtkpafafiaicfpaaPwS
import Derived.Deep.Slices
set_option linter.unusedSimpArgs false
set_option linter.unusedVariables false
set_option linter.unusedSectionVars false
/-! The abstract logic, part U: what came in, opened: each slice a block that is only read. -/
namespace Go.Pw
open Go.RowKit (Below)

def tilesT (P : Program) (rec : TypeId → Bool) : List Field → Nat → Option Nat
  | [], o => some o
  | f :: r, o => if f.offset == o && rec f.type then tilesT P rec r (o + P.cellsOf f.type) else none

/-- Types of numbers and bools, structs and slices of such. -/
def argOk (P : Program) : Nat → TypeId → Bool
  | 0, _ => false
  | d + 1, t => match P.underlying t with
    | some .bool | some (.int _) => P.cellsOf t == 1
    | some (.struct fs) => tilesT P (argOk P d) fs.toList 0 == some (P.cellsOf t)
    | some (.slice e) => P.cellsOf t == 1 && argOk P d e && decide (0 < P.cellsOf e)
    | _ => false

def all2 {α β : Type} (R : α → β → Prop) : List α → List β → Prop
  | [], [] => True
  | a :: l, b :: m => R a b ∧ all2 R l m
  | _, _ => False

/-- What cells of a type hold. -/
def TypA (P : Program) (h : AH) : Nat → TypeId → List Value → Prop
  | 0, _, _ => False
  | d + 1, t, cs => match P.underlying t with
    | some .bool => ∃ b, cs = [.bool b]
    | some (.int k) => ∃ n, cs = [.int k n] ∧ (Lit.int k n).wf = true
    | some (.struct fs) => ∃ parts : List (List Value), cs = parts.flatten ∧ all2 (fun f p => p.length = P.cellsOf f.type ∧ TypA P h d f.type p) fs.toList parts
    | some (.slice e) => cs = [.slice none 0 0] ∨ ∃ b len cap, ∃ rows : List (List Value), cs = [.slice (some ⟨b, 0, none⟩) len cap] ∧ len ≤ cap ∧ cap ≤ maxLen ∧ h[b]? = some (.cells false rows.flatten) ∧ rows.length = cap ∧
        ∀ x ∈ rows, x.length = P.cellsOf e ∧ TypA P h d e x
    | _ => False

section
variable {P : Program} {w0 : Fr} {ι : Inj} {h : AH} {w : World} {FC : Nat → Code → Option AC} {H : Type} {enc : TypeId × Value → H}

theorem all2.mono {α β : Type} {R R' : α → β → Prop} (hr : ∀ a b, R a b → R' a b) : ∀ {l : List α} {m : List β}, all2 R l m → all2 R' l m
  | [], [], _ => trivial
  | _ :: _, _ :: _, h => ⟨hr _ _ h.1, all2.mono hr h.2⟩
  | [], _ :: _, h => h.elim
  | _ :: _, [], h => h.elim

theorem TypA.push (k : AH) : ∀ {d : Nat} {t : TypeId} {cs : List Value}, TypA P h d t cs → TypA P (h ++ k) d t cs
  | 0, _, _, hh => hh.elim
  | d + 1, t, cs, hh => by
    simp only [TypA] at hh ⊢
    split at hh
    · exact hh
    · exact hh
    · obtain ⟨parts, e, hp⟩ := hh
      exact ⟨parts, e, hp.mono fun f p hq => ⟨hq.1, hq.2.push k⟩⟩
    · rcases hh with hh | ⟨b, len, cap, rows, e1, e2, e3, e4, e5, e6⟩
      · exact .inl hh
      · exact .inr ⟨b, len, cap, rows, e1, e2, e3, get_push e4, e5, fun x hx => ⟨(e6 x hx).1, (e6 x hx).2.push k⟩⟩
    · exact hh

/-- No block is written. -/
def RO (h : AH) : Prop := ∀ k ∈ h, k.rw = false

/-- A block that is only read, laid over what is there. -/
theorem HR.look (hr : HR FC w0 ι h w) (hro : RO h) {cs : List Value} {b' o : Nat} {C : Array Value} {e : TypeId} {fz : Nat × Nat} (hw : w.heap[b']? = some (.cells C e fz))
    (hc : ∀ (i : Nat) (v : Value), cs[i]? = some v → ∃ v', C[o + i]? = some v' ∧ VR ι v v') (hm : b' ∉ w0.marks) : HR FC w0 (ι.upd h.length (b', o, none)) (h ++ [.cells false cs]) w := by
  have hb : ι h.length = none := by
    cases e : ι h.length with
    | none => rfl
    | some y => exact absurd (hr.dom _ _ e).1 (by omega)
  have hle : Le ι (ι.upd h.length (b', o, none)) := Inj.upd_le _ hb
  exact
    { below := hr.below
      dom := fun b z e => by
        by_cases hbh : b = h.length
        · subst hbh
          rw [Inj.upd_same] at e; cases e
          exact ⟨by simp, (Array.getElem?_eq_some_iff.1 hw).1⟩
        · rw [Inj.upd_ne _ _ hbh] at e
          have := hr.dom b z e
          exact ⟨by simp; omega, this.2⟩
      blk := fun b k z e i => by
        by_cases hbh : b = h.length
        · subst hbh
          rw [Inj.upd_same] at i; cases i
          rw [List.getElem?_append_right (Nat.le_refl _)] at e
          simp at e; subst e
          exact ⟨rfl, C, _, _, hw, fun i v hv => by obtain ⟨v', c1, c2⟩ := hc i v hv; exact ⟨v', c1, c2.mono hle⟩, fun hh => by cases hh⟩
        · rw [Inj.upd_ne _ _ hbh] at i
          rw [List.getElem?_append_left (hr.dom b z i).1] at e
          exact (hr.blk b k z e i).mono hle
      inj := fun b c k l y z ib ic hyz ek el hne hrw => by
        exfalso
        have : k ∈ h ++ [.cells false cs] := List.mem_of_getElem? ek
        rcases List.mem_append.1 this with hk | hk
        · rw [hro k hk] at hrw; cases hrw
        · simp at hk; subst hk; simp [Blk.rw] at hrw
      mkd := fun k hk => by
        obtain ⟨h1, h2⟩ := hr.mkd k hk
        refine ⟨h1, fun b y e => ?_⟩
        by_cases hbh : b = h.length
        · subst hbh
          rw [Inj.upd_same] at e; cases e
          rintro rfl
          exact hm hk
        · rw [Inj.upd_ne _ _ hbh] at e
          exact h2 b y e }

/-- What is found for cells that were read. -/
def Found (P : Program) (FC : Nat → Code → Option AC) (w0 : Fr) (w : World) (ι : Inj) (h : AH) (cs : List Value) (T : AH → List Value → Prop) : Prop :=
  ∃ ι' k acs, CR ι' acs cs ∧ HR FC w0 ι' (h ++ k) w ∧ RO (h ++ k) ∧ Ext h.length ι ι' ∧ T (h ++ k) acs

theorem Found.one (hr : HR FC w0 ι h w) (hro : RO h) {v : Value} {T : AH → List Value → Prop} (hv : VR ι v v) (ht : T h [v]) : Found P FC w0 w ι h [v] T :=
  ⟨ι, [], [v], ⟨rfl, fun i x x' e e' => by
    cases i with
    | zero => simp at e e'; subst e; subst e'; exact hv
    | succ i => simp at e⟩, by simpa using hr, by simpa using hro, Ext.refl _ _, by simpa using ht⟩

/-- Rows of cells, one after the other. -/
theorem found_seq : ∀ (l : List (List Value × (AH → List Value → Prop))), (∀ p ∈ l, ∀ h k x, p.2 h x → p.2 (h ++ k) x) → (∀ p ∈ l, ∀ (ι : Inj) (h : AH), HR FC w0 ι h w → RO h → Found P FC w0 w ι h p.1 p.2) →
    ∀ (ι : Inj) (h : AH), HR FC w0 ι h w → RO h → ∃ ι' k, ∃ rows : List (List Value), HR FC w0 ι' (h ++ k) w ∧ RO (h ++ k) ∧ Ext h.length ι ι' ∧ all2 (fun a p => CR ι' a p.1 ∧ p.2 (h ++ k) a) rows l
  | [], _, _, ι, h, hr, hro => ⟨ι, [], [], by simpa using hr, by simpa using hro, Ext.refl _ _, trivial⟩
  | p :: l, hm, hs, ι, h, hr, hro => by
    obtain ⟨ι1, k1, a1, c1, c2, c3, c4, c5⟩ := hs p (by simp) ι h hr hro
    obtain ⟨ι2, k2, rows, d1, d2, d3, d4⟩ := found_seq l (fun q hq => hm q (by simp [hq])) (fun q hq => hs q (by simp [hq])) ι1 (h ++ k1) c2 c3
    have hle : Le ι1 ι2 := d3.le c2.Dom
    refine ⟨ι2, k1 ++ k2, a1 :: rows, by rw [← List.append_assoc]; exact d1, by rw [← List.append_assoc]; exact d2, c4.trans d3 (by simp), ⟨c1.mono hle, ?_⟩, ?_⟩
    · rw [← List.append_assoc]; exact hm p (by simp) _ _ _ c5
    · rw [← List.append_assoc]; exact d4

theorem all2_flatten {β : Type} {R : List Value → β → Prop} {g : β → List Value} (hR : ∀ a b, R a b → CR ι a (g b)) : ∀ {rows : List (List Value)} {l : List β}, all2 R rows l → CR ι rows.flatten (l.map g).flatten
  | [], [], _ => ⟨rfl, fun i v v' e => by simp at e⟩
  | a :: rows, b :: l, hh => by
    simp only [List.flatten_cons, List.map_cons]
    exact (hR a b hh.1).append' (all2_flatten hR hh.2)
  | [], _ :: _, hh => hh.elim
  | _ :: _, [], hh => hh.elim

theorem tiles_flatten {rec : TypeId → Bool} {cs : List Value} : ∀ (fs : List Field) (o m : Nat), tilesT P rec fs o = some m → o ≤ m ∧ (m ≤ cs.length → (fs.map fun f => (cs.drop f.offset).take (P.cellsOf f.type)).flatten = (cs.drop o).take (m - o))
  | [], o, m, ht => by
    simp only [tilesT, Option.some.injEq] at ht; subst ht
    simp
  | f :: fs, o, m, ht => by
    simp only [tilesT] at ht
    split at ht
    · rename_i hc
      simp only [Bool.and_eq_true, beq_iff_eq] at hc
      obtain ⟨h1, h2⟩ := tiles_flatten (cs := cs) fs _ _ ht
      refine ⟨by omega, fun hm => ?_⟩
      simp only [List.map_cons, List.flatten_cons]
      rw [h2 hm, hc.1, show m - o = P.cellsOf f.type + (m - (o + P.cellsOf f.type)) by omega, List.take_add, List.drop_drop]
    · cases ht

theorem tiles_rec {rec : TypeId → Bool} : ∀ (fs : List Field) (o m : Nat), tilesT P rec fs o = some m → ∀ f ∈ fs, rec f.type = true ∧ f.offset + P.cellsOf f.type ≤ m
  | [], _, _, _, f, hf => by simp at hf
  | f :: fs, o, m, ht, g, hg => by
    simp only [tilesT] at ht
    split at ht
    · rename_i hc
      simp only [Bool.and_eq_true, beq_iff_eq] at hc
      rcases List.mem_cons.1 hg with rfl | hg
      · exact ⟨hc.2, by have := (tiles_flatten (P := P) (cs := []) fs _ _ ht).1; omega⟩
      · exact tiles_rec fs _ _ ht g hg
    · cases ht

theorem mapM_mem {α β : Type} {f : α → Option β} : ∀ {l : List α} {r : List β}, l.mapM f = some r → ∀ x ∈ l, ∃ y, f x = some y
  | [], _, _, x, hx => by simp at hx
  | a :: l, r, h, x, hx => by
    simp only [List.mapM_cons, Option.bind_eq_bind, Option.bind_eq_some_iff, Option.pure_def, Option.some.injEq] at h
    obtain ⟨y, h1, r', h2, _⟩ := h
    rcases List.mem_cons.1 hx with rfl | hx
    · exact ⟨y, h1⟩
    · exact mapM_mem h2 x hx

theorem flat_cell {n : Nat} {f : Nat → List Value} {g : Nat → Option Value} : ∀ (m : Nat), (∀ i, i < m → (f i).length = n ∧ ∀ j, j < n → g (i * n + j) = (f i)[j]?) →
    ((List.range m).map f).flatten.length = m * n ∧ ∀ j, j < m * n → ((List.range m).map f).flatten[j]? = g j
  | 0, _ => by simp
  | m + 1, hf => by
    obtain ⟨h1, h2⟩ := flat_cell m fun i hi => hf i (by omega)
    obtain ⟨h3, h4⟩ := hf m (by omega)
    rw [List.range_succ, List.map_append, List.flatten_append]
    simp only [List.map_cons, List.map_nil, List.flatten_cons, List.flatten_nil, List.append_nil]
    refine ⟨by rw [List.length_append, h1, h3, Nat.succ_mul], fun j hj => ?_⟩
    by_cases hlt : j < m * n
    · rw [List.getElem?_append_left (by omega)]; exact h2 j hlt
    · rw [List.getElem?_append_right (by omega), h1, ← h4 (j - m * n) (by rw [Nat.succ_mul] at hj; omega)]
      congr 1; omega

theorem all2_map {α β γ : Type} {R : α → β → Prop} {f : γ → β} : ∀ {l : List α} {m : List γ}, all2 R l (m.map f) → all2 (fun a c => R a (f c)) l m
  | [], [], _ => trivial
  | _ :: _, _ :: _, h => ⟨h.1, all2_map h.2⟩
  | [], _ :: _, h => h.elim
  | _ :: _, [], h => h.elim
theorem all2_flip {α β : Type} {R : α → β → Prop} : ∀ {l : List α} {m : List β}, all2 R l m → all2 (fun b a => R a b) m l
  | [], [], _ => trivial
  | _ :: _, _ :: _, h => ⟨h.1, all2_flip h.2⟩
  | [], _ :: _, h => h.elim
  | _ :: _, [], h => h.elim
theorem all2_left {α β : Type} {R : α → β → Prop} {p : α → Prop} (hp : ∀ a b, R a b → p a) : ∀ {l : List α} {m : List β}, all2 R l m → ∀ x ∈ l, p x
  | [], [], _, x, hx => by simp at hx
  | a :: l, b :: m, h, x, hx => by
    rcases List.mem_cons.1 hx with rfl | hx
    · exact hp _ _ h.1
    · exact all2_left hp h.2 x hx
  | [], _ :: _, h, _, _ => h.elim
  | _ :: _, [], h, _, _ => h.elim
theorem all2_len {α β : Type} {R : α → β → Prop} : ∀ {l : List α} {m : List β}, all2 R l m → l.length = m.length
  | [], [], _ => rfl
  | _ :: _, _ :: _, h => by simp [all2_len h.2]
  | [], _ :: _, h => h.elim
  | _ :: _, [], h => h.elim

theorem RO.snoc (hro : RO h) (cs : List Value) : RO (h ++ [.cells false cs]) := fun k hk => by
  rcases List.mem_append.1 hk with hk | hk
  · exact hro k hk
  · simp at hk; subst hk; rfl

theorem open_any {held : Bool} (hmk : w0.marks = []) : ∀ (d : Nat) (t : TypeId) (fuel : Nat) (cs : List Value) (x : DataW H × List MemPlace), argOk P d t = true → DataW.trod enc P w 0 (fun _ => true) held fuel t cs = some x →
    ∀ (ι : Inj) (h : AH), HR FC w0 ι h w → RO h → Found P FC w0 w ι h cs fun h acs => acs.length = P.cellsOf t ∧ TypA P h d t acs
  | 0, _, _, _, _, ha, _, _, _, _, _ => by simp [argOk] at ha
  | d + 1, t, fuel, cs, x, ha, hx, ι, h, hr, hro => by
    cases hu : P.underlying t with
    | none => simp [argOk, hu] at ha
    | some dsc =>
      cases dsc <;> simp only [argOk, hu, Bool.false_eq_true] at ha
      case bool =>
        simp only [beq_iff_eq] at ha
        obtain ⟨b, rfl, _⟩ := DataW.trod_bool hu hx
        exact Found.one hr hro (.bool b) ⟨ha.symm, by simp only [TypA, hu]; exact ⟨b, rfl⟩⟩
      case int k =>
        simp only [beq_iff_eq] at ha
        obtain ⟨n, rfl, _, hwf⟩ := DataW.trod_int hu hx
        exact Found.one hr hro (.int k n) ⟨ha.symm, by simp only [TypA, hu]; exact ⟨n, rfl, hwf⟩⟩
      case struct fs =>
        simp only [beq_iff_eq] at ha
        obtain ⟨xs, n, _, _, hlen, hxl, hfs⟩ := DataW.trod_struct hu hx
        have hone : ∀ f ∈ fs.toList, ∃ y, DataW.trod enc P w 0 (fun _ => true) held n f.type ((cs.drop f.offset).take (P.cellsOf f.type)) = some y := fun f hf => by
          obtain ⟨i, hi, rfl⟩ := List.getElem_of_mem hf
          have hi' : i < fs.size := by simpa using hi
          have := hfs i fs[i] (Array.getElem?_eq_getElem hi')
          rw [List.getElem?_eq_getElem (by omega)] at this
          exact ⟨_, by simpa using this⟩
        obtain ⟨ι', k, rows, c1, c2, c3, c4⟩ := found_seq (P := P) (FC := FC) (w0 := w0) (w := w) (fs.toList.map fun f => ((cs.drop f.offset).take (P.cellsOf f.type), fun h acs => acs.length = P.cellsOf f.type ∧ TypA P h d f.type acs))
          (fun p hp h k x hx => by
            obtain ⟨f, _, rfl⟩ := List.mem_map.1 hp
            exact ⟨hx.1, hx.2.push k⟩)
          (fun p hp ι h hr hro => by
            obtain ⟨f, hf, rfl⟩ := List.mem_map.1 hp
            obtain ⟨y, hy⟩ := hone f hf
            exact open_any hmk d f.type n _ y (tiles_rec _ _ _ ha f hf).1 hy ι h hr hro) ι h hr hro
        have hcr := all2_flatten (R := fun a (p : List Value × (AH → List Value → Prop)) => CR ι' a p.1 ∧ p.2 (h ++ k) a) (g := (·.1)) (fun a b hab => hab.1) c4
        have hmm : ((fs.toList.map fun f => ((cs.drop f.offset).take (P.cellsOf f.type), fun h acs => acs.length = P.cellsOf f.type ∧ TypA P h d f.type acs)).map (·.1)).flatten = cs := by
          rw [List.map_map]
          have := (tiles_flatten (P := P) (cs := cs) fs.toList 0 _ ha).2 (by omega)
          simp only [Function.comp_def]
          rw [this]
          simp [← hlen]
        rw [hmm] at hcr
        refine ⟨ι', k, rows.flatten, hcr, c1, c2, c3, by rw [hcr.1, hlen], ?_⟩
        simp only [TypA, hu]
        exact ⟨rows, rfl, (all2_flip (all2_map c4)).mono fun f p hq => hq.2⟩
      case slice e =>
        simp only [Bool.and_eq_true, beq_iff_eq, decide_eq_true_eq] at ha
        obtain ⟨⟨ha1, ha2⟩, ha3⟩ := ha
        rcases Go.Deep.open_slice hu hx with ⟨rfl, _⟩ | ⟨a, len, cap, m, n, D, Pl, rfl, _, hl, hm, hmm, _, hel⟩
        · exact Found.one hr hro (.snil 0 0) ⟨ha1.symm, by simp [TypA, hu]⟩
        · simp only [if_true] at hmm
          subst hmm
          obtain ⟨f, hf⟩ := Go.Deep.choose_lt (α := List Value) hel
          obtain ⟨ι', k, rows, c1, c2, c3, c4⟩ := found_seq (P := P) (FC := FC) (w0 := w0) (w := w) ((List.range m).map fun i => (f i, fun h acs => acs.length = P.cellsOf e ∧ TypA P h d e acs))
            (fun p hp h k x hx => by
              obtain ⟨i, _, rfl⟩ := List.mem_map.1 hp
              exact ⟨hx.1, hx.2.push k⟩)
            (fun p hp ι h hr hro => by
              obtain ⟨i, hi, rfl⟩ := List.mem_map.1 hp
              exact open_any hmk d e n _ _ ha2 (hf i (List.mem_range.1 hi)).2 ι h hr hro) ι h hr hro
          have hcr := all2_flatten (R := fun a (p : List Value × (AH → List Value → Prop)) => CR ι' a p.1 ∧ p.2 (h ++ k) a) (g := (·.1)) (fun a b hab => hab.1) c4
          rw [List.map_map] at hcr
          simp only [Function.comp_def] at hcr
          obtain ⟨g1, g2⟩ := flat_cell (n := P.cellsOf e) (f := f) (g := fun j => w.cell? (a.add j)) m fun i hi => by
            obtain ⟨_, q1, q2⟩ := World.cells?_some (hf i hi).1
            exact ⟨q1, fun j hj => by rw [← Go.Deep.add_add]; exact q2 j hj⟩
          have hrl : rows.length = m := by have := all2_len c4; simpa using this
          have hT : TypA P (h ++ k ++ [.cells false rows.flatten]) (d + 1) t [.slice (some ⟨(h ++ k).length, 0, none⟩) len m] := by
            simp only [TypA, hu]
            refine .inr ⟨_, len, m, rows, rfl, hl, hm, by simp, hrl, fun x hx => ?_⟩
            have := all2_left (p := fun a => a.length = P.cellsOf e ∧ TypA P (h ++ k) d e a) (fun a c hq => hq.2) (all2_map c4) x hx
            exact ⟨this.1, this.2.push _⟩
          have done : ∀ ι2, HR FC w0 ι2 (h ++ k ++ [.cells false rows.flatten]) w → Ext (h ++ k).length ι' ι2 → VR ι2 (.slice (some ⟨(h ++ k).length, 0, none⟩) len m) (.slice (some a) len m) →
              Found P FC w0 w ι h [.slice (some a) len m] fun h acs => acs.length = P.cellsOf t ∧ TypA P h (d + 1) t acs := fun ι2 h1 h2 h3 =>
            ⟨ι2, k ++ [.cells false rows.flatten], [.slice (some ⟨(h ++ k).length, 0, none⟩) len m], ⟨rfl, fun i x x' e e' => by
              cases i with
              | zero => simp only [List.getElem?_cons_zero, Option.some.injEq] at e e'; subst e; subst e'; exact h3
              | succ i => simp at e⟩, by rw [← List.append_assoc]; exact h1, by rw [← List.append_assoc]; exact c2.snoc _, c3.trans h2 (by simp), ha1.symm, by rw [← List.append_assoc]; exact hT⟩
          by_cases h0 : m = 0
          · subst h0
            exact done ι' (c1.push _) (Ext.refl _ _) (.slice (Nat.le_refl _) (fun e => e) (fun hh => by omega) (fun hh => by omega))
          · have hpos : 0 < m * P.cellsOf e := Nat.mul_pos (by omega) ha3
            have hc0 := g2 0 hpos
            rw [List.getElem?_eq_getElem (by omega)] at hc0
            have hcell : w.cell? a = some (((List.range m).map f).flatten[0]'(by omega)) := by simpa [Addr.add] using hc0.symm
            unfold World.cell? at hcell
            split at hcell
            · rename_i C et fz hw
              split at hcell
              · cases hcell
              · rename_i hsp
                have hsp' : a.spot = none := by simpa using hsp
                have hlook : HR FC w0 (ι'.upd (h ++ k).length (a.block, a.off, none)) (h ++ k ++ [.cells false rows.flatten]) w := HR.look c1 c2 hw (fun i v hv => by
                  obtain ⟨v', d1, d2⟩ := hcr.ex i v hv
                  have hi := (List.getElem?_eq_some_iff.1 d1).1
                  have := g2 i (by rw [← g1]; exact hi)
                  rw [show ((List.range m).map f).flatten[i]? = some v' from d1] at this
                  have hadd : a.add i = ⟨a.block, a.off + i, none⟩ := by
                    unfold Addr.add
                    split
                    · rename_i h00; subst h00; cases a; simp_all
                    · cases a; simp_all
                  rw [hadd] at this
                  simp only [World.cell?, hw, Option.isSome_none, Bool.false_eq_true, if_false] at this
                  exact ⟨v', this.symm, d2⟩) (by rw [hmk]; simp)
                refine done _ hlook (fun c hc => Inj.upd_ne _ _ (by omega)) (.slice (Nat.le_refl _) (fun e => e) (fun _ => ⟨rfl, hsp', a.off, none, Inj.upd_same _ _ _, by simp⟩) (fun _ b' o K e => by rw [Inj.upd_same] at e; cases e))
            · cases hcell

end
end Go.Pw
