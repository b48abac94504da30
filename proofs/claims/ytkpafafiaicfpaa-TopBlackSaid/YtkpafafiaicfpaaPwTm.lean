/- The abstract logic in which the functions of the program are walked, part 28. No condition. -/
import Derived.Test.YtkpafafiaicfpaaPwT
set_option linter.unusedSimpArgs false
set_option linter.unusedVariables false
set_option linter.unusedSectionVars false
/-! The abstract logic: maps. -/
namespace Go.Pw

section
variable {P : Program} {N : Nat} {r : Option Nat} {Q : Ex → Tm → AH → Prop} {σ : Tm} {h : AH} {ks : List Kf} {its : List It} {d : Option Nat} {b c m n : Nat} {es : List (Value × Value)} {seen : List Nat} {z k v : Value}

def rgA (b m : Nat) (h : AH) (k : Option Blk) : Option Step := match k with
  | some (.map es) => some (.pointer (some ⟨b, 0, none⟩), some (.iter (some m) es.length []), h)
  | _ => none
theorem semE_rangeM : semE b .rangeM [.map (some m)] h = rgA b m h h[m]? := by
  show semRange b (.map (some m)) h = _
  unfold semRange rgA
  simp only
  cases h[m]? with
  | none => rfl
  | some k => cases k <;> rfl
theorem rgA_some : rgA b m h (some (.map es)) = some (.pointer (some ⟨b, 0, none⟩), some (.iter (some m) es.length []), h) := (rfl)

theorem evR_nextR (hb : h[b]? = some (.iter (some m) n seen)) (hm : h[m]? = some (.map es)) (hn : es.length = n)
    (h1 : ∀ i k v, es[i]? = some (k, v) → i ∉ seen → rg P N r ks Q its (putσ σ d (.tuple [.bool true, k, v].toArray)) (h.set b (.iter (some m) n (seen ++ [i]))))
    (h2 : (∀ i, i < n → i ∈ seen) → rg P N r ks Q its (putσ σ d (.tuple [.bool false].toArray)) h) : evR P N r ks Q .next (some [.pointer (some ⟨b, 0, none⟩)]) d its σ h := by
  rw [evR_next]
  refine ⟨rfl, rfl, ?_⟩
  simp only [hb, hm]
  exact ⟨hn, fun i k v e hi => h1 i k v e hi, h2⟩

/-- The entry that was met last. -/
def enC (t : Bool) (kv : Option (Value × Value)) (h : AH) : Option Step := match t, kv with
  | true, some kv => some (.tuple [kv.1, kv.2].toArray, none, h)
  | _, _ => none
def enB (n : Nat) (seen : List Nat) (h : AH) (k : Option Blk) : Option Step := match k with
  | some (.map es) => enC (es.length == n) (seen.getLast?.bind fun i => es[i]?) h
  | _ => none
def enA (h : AH) (k : Option Blk) : Option Step := match k with
  | some (.iter (some m) n seen) => enB n seen h h[m]?
  | _ => none
theorem semE_entry : semE b .entry [.pointer (some ⟨c, 0, none⟩)] h = enA h h[c]? := by
  show semEntry (.pointer (some ⟨c, 0, none⟩)) h = _
  unfold semEntry enA
  simp only [and_self, if_true]
  cases h[c]? with
  | none => rfl
  | some k =>
    cases k <;> try rfl
    rename_i m n seen
    cases m with
    | none => rfl
    | some m =>
      simp only [enB]
      cases h[m]? with
      | none => rfl
      | some k =>
        cases k <;> try rfl
        rename_i es
        cases hs : seen.getLast? with
        | none => simp [enC]
        | some i =>
          simp only [Option.bind_some]
          by_cases hl : es.length = n
          · have h2 : (es.length == n) = true := by simp [hl]
            rw [if_pos hl, h2]
            cases es[i]? <;> rfl
          · have h2 : (es.length == n) = false := by simp [hl]
            rw [if_neg hl, h2]; rfl
theorem enA_some : enA h (some (.iter (some m) n seen)) = enB n seen h h[m]? := (rfl)
theorem enB_some : enB n seen h (some (.map es)) = enC (es.length == n) (seen.getLast?.bind fun i => es[i]?) h := (rfl)
theorem enC_some : enC true (some (k, v)) h = some (.tuple [k, v].toArray, none, h) := (rfl)
theorem getLast_snoc {i : Nat} : (seen ++ [i]).getLast? = some i := List.getLast?_concat
theorem beq_nat_refl {n : Nat} : (n == n) = true := by simp

/-- What a key leads to. -/
def lkA (ok : Bool) (z : Value) (v : Option (Option Value)) (h : AH) : Option Step := match v with
  | some v => some (lookA z ok v, none, h)
  | none => none
def lkM (ok int : Bool) (z k : Value) (h : AH) (x : Option Blk) : Option Step := match x with
  | some (.map es) => lkA ok z (getK int k es) h
  | _ => none
theorem semE_lookup {i : Int} {q : IntKind} {ok : Bool} : semE b (.lookup z ok true) [.map (some c), .int q i] h = lkM ok true z (.int q i) h h[c]? := by
  show (match h[c]? with
    | some (.map es) => if keyV true (.int q i) = true then (getK true (.int q i) es).map fun v => (lookA z ok v, none, h) else none
    | _ => none) = lkM ok true z (.int q i) h h[c]?
  unfold lkM lkA
  cases h[c]? with
  | none => rfl
  | some x =>
    cases x <;> try rfl
    rename_i es
    simp only [keyV, if_true]
    cases getK true (.int q i) es <;> rfl
theorem lkM_some {ok int : Bool} : lkM ok int z k h (some (.map es)) = lkA ok z (getK int k es) h := (rfl)
theorem lkA_ok {v : Option Value} : lkA true z (some v) h = some (.tuple [v.getD z, .bool v.isSome].toArray, none, h) := (rfl)
theorem lkA_one {v : Option Value} : lkA false z (some v) h = some (v.getD z, none, h) := (rfl)
def upM (es : Option (List (Value × Value))) (h : AH) (c : Nat) : Option Step := match es with
  | some es => some (undef, none, h.set c (.map es))
  | none => none
def upB (k v : Value) (int : Bool) (h : AH) (c : Nat) (x : Option Blk) : Option Step := match x with
  | some (.map es) => upM (updK int k v es) h c
  | _ => none
theorem semE_mapUpd {i : Int} {q : IntKind} : semE b (.mapUpd true) [.map (some c), .int q i, v] h = upB (.int q i) v true h c h[c]? := by
  show (match h[c]? with
    | some (.map es) => if keyV true (.int q i) = true then (updK true (.int q i) v es).map fun es => ((undef : Value), none, h.set c (.map es)) else none
    | _ => none) = upB (.int q i) v true h c h[c]?
  unfold upB upM
  cases h[c]? with
  | none => rfl
  | some x =>
    cases x <;> try rfl
    rename_i es
    simp only [keyV, if_true]
    cases updK true (.int q i) v es <;> rfl
theorem upB_some {int : Bool} : upB k v int h c (some (.map es)) = upM (updK int k v es) h c := (rfl)
theorem upM_some : upM (some es) h c = some (undef, none, h.set c (.map es)) := (rfl)
end

/-! ### Maps from numbers, as lists -/
section
variable {α : Type} {q : IntKind} {enc : α → Value} {m : List (Int × α)} {k : Int}
/-- The entries of a map, as they lie. -/
def encM (q : IntKind) (enc : α → Value) (m : List (Int × α)) : List (Value × Value) := m.map fun e => (.int q e.1, enc e.2)
theorem encM_len : (encM q enc m).length = m.length := by simp [encM]
theorem encM_get {i : Nat} {x y : Value} (e : (encM q enc m)[i]? = some (x, y)) : ∃ k a, m[i]? = some (k, a) ∧ x = .int q k ∧ y = enc a := by
  unfold encM at e
  rw [List.getElem?_map] at e
  simp only [Option.map_eq_some_iff] at e
  obtain ⟨⟨k, a⟩, e1, e2⟩ := e
  cases e2
  exact ⟨k, a, e1, rfl, rfl⟩
theorem findIx_enc : ∀ (m : List (Int × α)), findIx true (.int q k) (encM q enc m) = some (m.findIdx? fun e => e.1 == k)
  | [] => rfl
  | e :: m => by
    have ih := findIx_enc m
    unfold encM at ih ⊢
    simp only [List.map_cons, findIx, sameK, if_true, Option.bind_some, List.findIdx?_cons, ih, Option.map_some]
    by_cases hk : k = e.1
    · subst hk; simp
    · have h1 : (k == e.1) = false := by simp [hk]
      have h2 : (e.1 == k) = false := by simp [Ne.symm hk]
      simp [h1, h2]
/-- The value of a key. -/
def getM (k : Int) (m : List (Int × α)) : Option α := (m.find? fun e => e.1 == k).map (·.2)
/-- The map with one value laid at a key. -/
def setM (k : Int) (a : α) (m : List (Int × α)) : List (Int × α) := match m.findIdx? fun e => e.1 == k with
  | none => m ++ [(k, a)]
  | some i => m.set i (k, a)
theorem getK_enc : getK true (.int q k) (encM q enc m) = some ((getM k m).map enc) := by
  unfold getK getM
  rw [findIx_enc]
  simp only [Option.map_some, Option.some.injEq]
  cases e : m.findIdx? fun e => e.1 == k with
  | none =>
    have : (m.find? fun e => e.1 == k) = none := by
      rw [List.find?_eq_none]
      intro x hx
      have := List.findIdx?_eq_none_iff.1 e x hx
      simpa using this
    simp [this]
  | some i =>
    obtain ⟨h1, h2, h3⟩ := List.findIdx?_eq_some_iff_getElem.1 e
    have : (m.find? fun e => e.1 == k) = some m[i] := by
      rw [List.find?_eq_some_iff_getElem]
      exact ⟨h2, i, h1, rfl, fun j hj => by simpa using h3 j hj⟩
    rw [this]
    simp [encM, List.getElem?_eq_getElem h1]
theorem updK_enc {a : α} : updK true (.int q k) (enc a) (encM q enc m) = some (encM q enc (setM k a m)) := by
  unfold updK setM
  rw [findIx_enc]
  simp only [Option.map_some, Option.some.injEq]
  cases m.findIdx? fun e => e.1 == k with
  | none => simp [encM]
  | some i => simp [encM, List.map_set]

/-- A sum over entries that were met in some order. -/
def sumAt (f : Nat → Int) (seen : List Nat) : Int := (seen.map f).sum
theorem sumAt_snoc (f : Nat → Int) (seen : List Nat) (i : Nat) : sumAt f (seen ++ [i]) = sumAt f seen + f i := by simp [sumAt]
theorem sumAt_bd (f : Nat → Int) (B : Int) (hB : 0 ≤ B) : ∀ (seen : List Nat), (∀ i ∈ seen, -B ≤ f i ∧ f i ≤ B) → -(seen.length * B) ≤ sumAt f seen ∧ sumAt f seen ≤ seen.length * B
  | [], _ => by simp [sumAt]
  | i :: l, h => by
    have h1 := h i (by simp)
    have h2 := sumAt_bd f B hB l (fun j hj => h j (by simp [hj]))
    simp only [sumAt, List.map_cons, List.sum_cons, List.length_cons] at h2 ⊢
    have : ((l.length + 1 : Nat) : Int) * B = l.length * B + B := by push_cast; rw [Int.add_mul]; omega
    omega
theorem seen_len {seen : List Nat} {n : Nat} (hd : seen.Nodup) (hl : ∀ i ∈ seen, i < n) : seen.length ≤ n := by
  have := hd.length_le_of_subset (l₂ := List.range n) (fun i hi => by simpa using hl i hi)
  simpa using this
theorem seen_all {seen : List Nat} {n : Nat} (hd : seen.Nodup) (hl : ∀ i ∈ seen, i < n) (ha : ∀ i, i < n → i ∈ seen) (f : Nat → Int) : sumAt f seen = sumAt f (List.range n) := by
  have hp : seen.Perm (List.range n) := (List.perm_ext_iff_of_nodup hd List.nodup_range).2 fun i => by simp; exact ⟨hl i, ha i⟩
  unfold sumAt
  have := hp.map f
  generalize seen.map f = a at this
  generalize (List.range n).map f = b at this
  induction this with
  | nil => rfl
  | cons x _ ih => simp [ih]
  | swap x y l => simp; omega
  | trans _ _ h1 h2 => exact h1.trans h2
theorem seen_snoc {seen : List Nat} {n i : Nat} (hd : seen.Nodup) (hi : i ∉ seen) : (seen ++ [i]).Nodup := by
  rw [List.nodup_append]
  exact ⟨hd, by simp, fun a ha b hb => by simp at hb; subst hb; rintro rfl; exact hi ha⟩
theorem sumAt_range {β : Type} (f : β → Int) (l : List β) (g : Nat → Int) (hg : ∀ i x, l[i]? = some x → g i = f x) : sumAt g (List.range l.length) = (l.map f).sum := by
  unfold sumAt
  congr 1
  apply List.ext_getElem (by simp)
  intro i h1 h2
  simp at h1
  simp only [List.getElem_map, List.getElem_range]
  exact hg i _ (List.getElem?_eq_getElem h1)
end
end Go.Pw
