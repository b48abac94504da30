/- Contracts of functions of the program, and what follows of them; each theorem states its conditions. -/
import Derived.Test.YtkpafafiaicfpaaZRb
set_option linter.unusedSimpArgs false
set_option linter.unusedVariables false
set_option linter.unusedSectionVars false
/-! The plain law of TopBlack. -/
namespace Go.Proofs.Ytkpafafiaicfpaa
open Go.Pw

/-! ### Sums of what is within spans -/
def Aff (g : Int → Int) : Prop := ∃ p q, ∀ x, g x = p * x + q
theorem Aff.pick {g : Int → Int} (h : Aff g) {a b x : Int} (h1 : a ≤ x) (h2 : x ≤ b) : (g a ≤ g x ∨ g b ≤ g x) ∧ (g x ≤ g a ∨ g x ≤ g b) := by
  obtain ⟨p, q, e⟩ := h
  rw [e, e, e]
  rcases Int.le_total 0 p with hp | hp
  · have k1 : p * a ≤ p * x := Int.mul_le_mul_of_nonneg_left h1 hp
    have k2 : p * x ≤ p * b := Int.mul_le_mul_of_nonneg_left h2 hp
    omega
  · have k1 : p * x ≤ p * a := Int.mul_le_mul_of_nonpos_left hp h1
    have k2 : p * b ≤ p * x := Int.mul_le_mul_of_nonpos_left hp h2
    omega
def MA (F : Int → Int → Int → Int) : Prop := (∀ c n, Aff fun w => F w c n) ∧ (∀ w n, Aff fun c => F w c n) ∧ ∀ w c, Aff fun n => F w c n
def Sk.box (s : Sk) (w c n : Int) : Prop := (s.wl ≤ w ∧ w ≤ s.wh) ∧ (s.cl ≤ c ∧ c ≤ s.ch) ∧ (s.nl ≤ n ∧ n ≤ s.nh)
theorem at_ends {s : Sk} {w c n : Int} (h : s.at w c n) : (w, c, n) ∈ s.ends := by
  obtain ⟨h1 | h1, h2 | h2, h3 | h3⟩ := h <;> subst h1 <;> subst h2 <;> subst h3 <;> simp [Sk.ends]
theorem MA.low {F : Int → Int → Int → Int} (hF : MA F) {s : Sk} {w c n : Int} (hb : s.box w c n) : ∃ w' c' n', s.at w' c' n' ∧ F w' c' n' ≤ F w c n := by
  obtain ⟨b1, b2, b3⟩ := hb
  obtain ⟨w', hw, h1⟩ : ∃ w', (w' = s.wl ∨ w' = s.wh) ∧ F w' c n ≤ F w c n := by
    rcases ((hF.1 c n).pick b1.1 b1.2).1 with h | h
    · exact ⟨_, .inl rfl, h⟩
    · exact ⟨_, .inr rfl, h⟩
  obtain ⟨c', hc, h2⟩ : ∃ c', (c' = s.cl ∨ c' = s.ch) ∧ F w' c' n ≤ F w' c n := by
    rcases ((hF.2.1 w' n).pick b2.1 b2.2).1 with h | h
    · exact ⟨_, .inl rfl, h⟩
    · exact ⟨_, .inr rfl, h⟩
  obtain ⟨n', hn, h3⟩ : ∃ n', (n' = s.nl ∨ n' = s.nh) ∧ F w' c' n' ≤ F w' c' n := by
    rcases ((hF.2.2 w' c').pick b3.1 b3.2).1 with h | h
    · exact ⟨_, .inl rfl, h⟩
    · exact ⟨_, .inr rfl, h⟩
  exact ⟨w', c', n', ⟨hw, hc, hn⟩, by omega⟩
theorem Aff.smul {g : Int → Int} (h : Aff g) (k : Int) : Aff fun x => k * g x := by
  obtain ⟨p, q, e⟩ := h
  exact ⟨k * p, k * q, fun x => by simp only [e]; rw [Int.mul_add, Int.mul_assoc]⟩
theorem MA.smul {F : Int → Int → Int → Int} (hF : MA F) (k : Int) : MA fun w c n => k * F w c n :=
  ⟨fun c n => (hF.1 c n).smul k, fun w n => (hF.2.1 w n).smul k, fun w c => (hF.2.2 w c).smul k⟩
theorem foldMin_le {α : Type} (f : α → Int) : ∀ (l : List α) (m : Int), l.foldl (fun m x => min m (f x)) m ≤ m ∧ ∀ x ∈ l, l.foldl (fun m x => min m (f x)) m ≤ f x
  | [], m => ⟨Int.le_refl _, fun x hx => by simp at hx⟩
  | y :: l, m => by
    obtain ⟨h1, h2⟩ := foldMin_le f l (min m (f y))
    refine ⟨by simp only [List.foldl_cons]; omega, fun x hx => ?_⟩
    simp only [List.foldl_cons]
    rcases List.mem_cons.1 hx with rfl | hx
    · omega
    · exact h2 x hx
theorem foldMax_ge {α : Type} (f : α → Int) : ∀ (l : List α) (m : Int), m ≤ l.foldl (fun m x => max m (f x)) m ∧ ∀ x ∈ l, f x ≤ l.foldl (fun m x => max m (f x)) m
  | [], m => ⟨Int.le_refl _, fun x hx => by simp at hx⟩
  | y :: l, m => by
    obtain ⟨h1, h2⟩ := foldMax_ge f l (max m (f y))
    refine ⟨by simp only [List.foldl_cons]; omega, fun x hx => ?_⟩
    simp only [List.foldl_cons]
    rcases List.mem_cons.1 hx with rfl | hx
    · omega
    · exact h2 x hx
theorem add_in {F : Int → Int → Int → Int} (hF : MA F) {s : Sk} {lo hi M w c n : Int} (h1 : lo ≤ M) (h2 : M ≤ hi) (hb : s.box w c n) : addLo F s lo hi ≤ M * F w c n ∧ M * F w c n ≤ addHi F s lo hi := by
  have key : ∀ k, (k = lo ∨ k = hi) → addLo F s lo hi ≤ k * F w c n ∧ k * F w c n ≤ addHi F s lo hi := fun k hk => by
    obtain ⟨w', c', n', ha, hle⟩ := (hF.smul k).low hb
    obtain ⟨w2, c2, n2, ha2, hle2⟩ := (hF.smul (-k)).low hb
    have e1 := (foldMin_le (fun x : Int × Int × Int => lo2 lo hi (F x.1 x.2.1 x.2.2)) s.ends (lo2 lo hi (F s.wl s.cl s.nl))).2 _ (at_ends ha)
    have e2 := (foldMax_ge (fun x : Int × Int × Int => hi2 lo hi (F x.1 x.2.1 x.2.2)) s.ends (hi2 lo hi (F s.wl s.cl s.nl))).2 _ (at_ends ha2)
    simp only [Int.neg_mul] at hle2
    have d1 : lo2 lo hi (F w' c' n') ≤ k * F w' c' n' := by unfold lo2; rcases hk with rfl | rfl <;> omega
    have d2 : k * F w2 c2 n2 ≤ hi2 lo hi (F w2 c2 n2) := by unfold hi2; rcases hk with rfl | rfl <;> omega
    unfold addLo addHi
    simp only at e1 e2
    omega
  have k1 := key lo (.inl rfl)
  have k2 := key hi (.inr rfl)
  have hA : Aff fun M => M * F w c n := ⟨F w c n, 0, fun x => by show x * F w c n = F w c n * x + 0; rw [Int.mul_comm]; omega⟩
  have := hA.pick h1 h2
  omega

theorem sum_set {α : Type} (f : α → Int) : ∀ (l : List α) (i : Nat) (x y : α), l[i]? = some y → ((l.set i x).map f).sum = (l.map f).sum + f x - f y
  | [], i, x, y, e => by simp at e
  | z :: l, 0, x, y, e => by simp at e; subst e; simp; omega
  | z :: l, i + 1, x, y, e => by
    have := sum_set f l i x y (by simpa using e)
    simp only [List.set_cons_succ, List.map_cons, List.sum_cons, this]; omega
theorem sum_snoc {α : Type} (f : α → Int) (l : List α) (x : α) : ((l ++ [x]).map f).sum = (l.map f).sum + f x := by simp

def skAt (l : List Sk) (k : Int) : Sk := (l[k.toNat]?).getD zeroSt.s
theorem newB_truth (l : List Sk) (G : Int → Int) (tms : List (Tk × Int)) : (∀ p ∈ tms, p.1.lo ≤ p.2 ∧ p.2 ≤ p.1.hi) → ∃ P : List ((Int × St) × Int), P.map (·.1) = newB l (tms.map (·.1)) ∧ (∀ p ∈ P, p.1.2.lo ≤ p.2 ∧ p.2 ≤ p.1.2.hi ∧ p.1.2.s = skAt l p.1.1) ∧
    (P.map fun p => p.2 * G p.1.1).sum = (tms.map fun p => p.2 * G p.1.k).sum ∧ (P.map fun p => p.1.2.hi).sum = (tms.map fun p => p.1.hi).sum := by
  induction tms using snoc_ind with
  | h0 => exact fun _ => ⟨[], rfl, fun p hp => by simp at hp, rfl, rfl⟩
  | h1 tms p ih =>
    intro hp
    obtain ⟨P, h1, h2, h3, h4⟩ := ih fun q hq => hp q (by simp [hq])
    have hpp := hp p (by simp)
    rw [List.map_append, List.map_cons, List.map_nil, newB_snoc, sum_snoc, sum_snoc, ← h3, ← h4]
    unfold addT setM getM
    rw [← h1]
    cases e : (P.map (·.1)).findIdx? fun e => e.1 == p.1.k with
    | none =>
      have hno : ((P.map (·.1)).find? fun e => e.1 == p.1.k) = none := by
        rw [List.find?_eq_none]
        intro x hx
        simpa using List.findIdx?_eq_none_iff.1 e x hx
      rw [hno]
      refine ⟨P ++ [((p.1.k, ⟨skAt l p.1.k, 0 + p.1.lo, 0 + p.1.hi⟩), p.2)], by simp [skAt, zeroSt], fun q hq => ?_, by rw [sum_snoc], by rw [sum_snoc]; dsimp only; omega⟩
      rcases List.mem_append.1 hq with hq | hq
      · exact h2 q hq
      · simp at hq; subst hq; exact ⟨by simp only; omega, by simp only; omega, rfl⟩
    | some i =>
      obtain ⟨g1, g2, g3⟩ := List.findIdx?_eq_some_iff_getElem.1 e
      have hfi : ((P.map (·.1)).find? fun e => e.1 == p.1.k) = some (P.map (·.1))[i] := by
        rw [List.find?_eq_some_iff_getElem]
        exact ⟨g2, i, g1, rfl, fun j hj => by simpa using g3 j hj⟩
      have hil : i < P.length := by simpa using g1
      rw [hfi]
      have hk : P[i].1.1 = p.1.k := by simpa using g2
      have hPi := h2 P[i] (List.getElem_mem hil)
      simp only [Option.map_some, Option.getD_some, List.getElem_map]
      refine ⟨P.set i ((p.1.k, ⟨skAt l p.1.k, P[i].1.2.lo + p.1.lo, P[i].1.2.hi + p.1.hi⟩), P[i].2 + p.2), by rw [List.map_set]; rfl, fun q hq => ?_, ?_, ?_⟩
      · rcases List.mem_or_eq_of_mem_set hq with hq | hq
        · exact h2 q hq
        · subst hq; exact ⟨by simp only; omega, by simp only; omega, rfl⟩
      · rw [sum_set _ P i _ P[i] (List.getElem?_eq_getElem hil)]
        simp only [hk, Int.add_mul]; omega
      · rw [sum_set _ P i _ P[i] (List.getElem?_eq_getElem hil)]
        simp only; omega

theorem foldMin_ge {α : Type} (f : α → Int) (A : Int) : ∀ (l : List α) (m : Int), A ≤ m → (∀ x ∈ l, A ≤ f x) → A ≤ l.foldl (fun m x => min m (f x)) m
  | [], m, h, _ => h
  | x :: l, m, h, hl => foldMin_ge f A l _ (by have := hl x (by simp); dsimp only; omega) fun y hy => hl y (by simp [hy])
theorem foldMax_le {α : Type} (f : α → Int) (A : Int) : ∀ (l : List α) (m : Int), m ≤ A → (∀ x ∈ l, f x ≤ A) → l.foldl (fun m x => max m (f x)) m ≤ A
  | [], m, h, _ => h
  | x :: l, m, h, hl => foldMax_le f A l _ (by have := hl x (by simp); dsimp only; omega) fun y hy => hl y (by simp [hy])
theorem sum_le {α : Type} (f g : α → Int) : ∀ (l : List α), (∀ x ∈ l, f x ≤ g x) → (l.map f).sum ≤ (l.map g).sum
  | [], _ => Int.le_refl _
  | x :: l, h => by
    have h1 := h x (by simp)
    have h2 := sum_le f g l fun y hy => h y (by simp [hy])
    simp only [List.map_cons, List.sum_cons]; omega

theorem truth_in {F : Int → Int → Int → Int} (hF : MA F) (l : List Sk) (tms : List (Tk × Int)) (ht : ∀ p ∈ tms, p.1.lo ≤ p.2 ∧ p.2 ≤ p.1.hi) (w c n : Int → Int) (hb : ∀ k, (skAt l k).box (w k) (c k) (n k)) :
    sumLo F (newB l (tms.map (·.1))) ≤ (tms.map fun p => p.2 * F (w p.1.k) (c p.1.k) (n p.1.k)).sum ∧ (tms.map fun p => p.2 * F (w p.1.k) (c p.1.k) (n p.1.k)).sum ≤ sumHi F (newB l (tms.map (·.1))) := by
  obtain ⟨P, h1, h2, h3, _⟩ := newB_truth l (fun k => F (w k) (c k) (n k)) tms ht
  rw [← h3, ← h1]
  unfold sumLo sumHi
  simp only [List.map_map]
  have key : ∀ p ∈ P, addLo F p.1.2.s p.1.2.lo p.1.2.hi ≤ p.2 * F (w p.1.1) (c p.1.1) (n p.1.1) ∧ p.2 * F (w p.1.1) (c p.1.1) (n p.1.1) ≤ addHi F p.1.2.s p.1.2.lo p.1.2.hi := fun p hp => by
    obtain ⟨a, b, e⟩ := h2 p hp
    exact add_in hF a b (by rw [e]; exact hb _)
  exact ⟨sum_le _ _ P fun p hp => (key p hp).1, sum_le _ _ P fun p hp => (key p hp).2⟩

theorem sumHi_le {F : Int → Int → Int → Int} {B : Int} (hB : 0 ≤ B) (l : List Sk) (hl : ∀ s ∈ l, s.ok) (b : List Tk) (hb : ∀ t ∈ b, t.ok l.length) (hF : ∀ w c n, In3 w c n → 0 ≤ F w c n ∧ F w c n ≤ B) : 0 ≤ sumLo F (newB l b) ∧ sumHi F (newB l b) ≤ (b.map (·.hi)).sum * B := by
  have hm := newB_ok hl b hb
  obtain ⟨P, h1, h2, _, h4⟩ := newB_truth l (fun _ => 0) (b.map fun t => (t, t.hi)) (fun p hp => by
    obtain ⟨t, ht, rfl⟩ := List.mem_map.1 hp
    exact ⟨(hb t ht).2.2.1, Int.le_refl _⟩)
  have e1 : (b.map fun t => (t, t.hi)).map (·.1) = b := by rw [List.map_map]; exact List.map_id' b
  rw [e1] at h1
  have e2 : ((b.map fun t => (t, t.hi)).map fun p => p.1.hi) = b.map (·.hi) := by rw [List.map_map]; rfl
  rw [e2] at h4
  have hhi : ((newB l b).map fun e => e.2.hi).sum = (b.map (·.hi)).sum := by rw [← h4, ← h1, List.map_map]; rfl
  have one : ∀ e ∈ newB l b, ∀ w c n, e.2.s.at w c n → 0 ≤ lo2 e.2.lo e.2.hi (F w c n) ∧ hi2 e.2.lo e.2.hi (F w c n) ≤ e.2.hi * B := fun e he w c n ha => by
    obtain ⟨k1, k2, k3, _⟩ := hm e he
    have hf := hF w c n (at_in k1 ha)
    have m1 : 0 ≤ e.2.lo * F w c n := Int.mul_nonneg k2 hf.1
    have m2 : 0 ≤ e.2.hi * F w c n := Int.mul_nonneg (by omega) hf.1
    have m3 : e.2.lo * F w c n ≤ e.2.hi * B := Int.mul_le_mul k3 hf.2 hf.1 (by omega)
    have m4 : e.2.hi * F w c n ≤ e.2.hi * B := Int.mul_le_mul_of_nonneg_left hf.2 (by omega)
    unfold lo2 hi2; omega
  constructor
  · have := sum_le (fun _ => 0) (fun e : Int × St => addLo F e.2.s e.2.lo e.2.hi) (newB l b) fun e he => by
      have h0 : e.2.s.at e.2.s.wl e.2.s.cl e.2.s.nl := by simp [Sk.at]
      exact foldMin_ge (fun x : Int × Int × Int => lo2 e.2.lo e.2.hi (F x.1 x.2.1 x.2.2)) 0 _ _ (one e he _ _ _ h0).1 fun x hx => (one e he _ _ _ (ends_at hx)).1
    have e0 : ((newB l b).map fun _ => (0 : Int)).sum = 0 := by
      induction newB l b with
      | nil => rfl
      | cons _ _ ih => simp [ih]
    unfold sumLo; omega
  · have := sum_le (fun e : Int × St => addHi F e.2.s e.2.lo e.2.hi) (fun e => e.2.hi * B) (newB l b) fun e he => by
      have h0 : e.2.s.at e.2.s.wl e.2.s.cl e.2.s.nl := by simp [Sk.at]
      refine (foldMax_le (fun x : Int × Int × Int => hi2 e.2.lo e.2.hi (F x.1 x.2.1 x.2.2)) (e.2.hi * B) _ _ (one e he _ _ _ h0).2 fun x hx => (one e he _ _ _ (ends_at hx)).2)
    have e0 : ∀ m : List (Int × St), (m.map fun e => e.2.hi * B).sum = (m.map fun e => e.2.hi).sum * B := fun m => by
      induction m with
      | nil => simp
      | cons x m ih => simp [ih, Int.add_mul]
    rw [e0, hhi] at this
    unfold sumHi; exact this

/-! ### What the parts of a state are -/
theorem aff_lin (p q : Int) {g : Int → Int} (e : ∀ x, g x = p * x + q) : Aff g := ⟨p, q, e⟩
theorem ma_coal : MA coal := by
  refine ⟨fun c n => ⟨-(1000 * c), 1000000 * c, fun w => ?_⟩, fun w n => ⟨1000000 - 1000 * w, 0, fun c => ?_⟩, fun w c => ⟨0, coal w c 0, fun n => ?_⟩⟩
  all_goals (simp only [coal]; grind)
theorem ma_baked : MA baked := by
  refine ⟨fun c n => ⟨-((1000 - c) * (1000 - n)), 1000 * ((1000 - c) * (1000 - n)), fun w => ?_⟩, fun w n => ⟨-((1000 - w) * (1000 - n)), 1000 * ((1000 - w) * (1000 - n)), fun c => ?_⟩, fun w c => ⟨-((1000 - w) * (1000 - c)), (1000 - w) * (1000 - c) * 1000, fun n => ?_⟩⟩
  all_goals (simp only [baked]; grind)
theorem Aff.add {f g : Int → Int} (h1 : Aff f) (h2 : Aff g) : Aff fun x => f x + g x := by
  obtain ⟨p, q, e⟩ := h1
  obtain ⟨p', q', e'⟩ := h2
  exact ⟨p + p', q + q', fun x => by simp only [e, e', Int.add_mul]; omega⟩
theorem MA.add {F G : Int → Int → Int → Int} (h1 : MA F) (h2 : MA G) : MA fun w c n => F w c n + G w c n :=
  ⟨fun c n => (h1.1 c n).add (h2.1 c n), fun w n => (h1.2.1 w n).add (h2.2.1 w n), fun w c => (h1.2.2 w c).add (h2.2.2 w c)⟩
theorem ma_over (k : Int) : MA (over k) := by
  have := (ma_coal.smul 1000).add ((ma_coal.add ma_baked).smul (-k))
  have e : over k = fun w c n => 1000 * coal w c n + -k * (coal w c n + baked w c n) := by
    funext w c n
    unfold over lead
    rw [Int.neg_mul]; omega
  rw [e]; exact this

/-! ### Fractions -/
def Fle (t u t' u' : Int) : Prop := t * u' ≤ t' * u
theorem fdown_le {t u t' u' : Int} (hu : 1 ≤ u) (hu' : 1 ≤ u') (ht : 0 ≤ t) (h : Fle t u t' u') : t / u ≤ t' / u' := by
  have h1 : t / u * u ≤ t := Int.ediv_mul_le t (by omega)
  refine Int.le_ediv_of_mul_le (by omega) ?_
  have h2 : t / u * u * u' ≤ t * u' := Int.mul_le_mul_of_nonneg_right h1 (by omega)
  have h3 : t / u * u' * u ≤ t' * u := by rw [Int.mul_right_comm]; exact Int.le_trans h2 h
  exact Int.le_of_mul_le_mul_right h3 (by omega)
theorem fup_spec {t u : Int} (hu : 1 ≤ u) (n : Int) : (t + u - 1) / u ≤ n ↔ t ≤ n * u := by
  rw [← Int.lt_add_one_iff, Int.ediv_lt_iff_lt_mul (by omega), Int.add_mul]
  omega
theorem fup_le {t u t' u' : Int} (hu : 1 ≤ u) (hu' : 1 ≤ u') (h : Fle t u t' u') : (t + u - 1) / u ≤ (t' + u' - 1) / u' := by
  rw [fup_spec hu]
  have h1 : t' ≤ (t' + u' - 1) / u' * u' := (fup_spec hu' _).1 (Int.le_refl _)
  have h2 : t' * u ≤ (t' + u' - 1) / u' * u' * u := Int.mul_le_mul_of_nonneg_right h1 (by omega)
  have h3 : t * u' ≤ (t' + u' - 1) / u' * u * u' := by rw [Int.mul_right_comm]; exact Int.le_trans h h2
  exact Int.le_of_mul_le_mul_right h3 (by omega)
theorem fdown_fup {t u : Int} (hu : 1 ≤ u) : t / u ≤ (t + u - 1) / u := Int.ediv_le_ediv (by omega) (by omega)

/-- A curve rises. -/
theorem curve_mono {c : List Tn} (hc : CurveOk c) {i j : Nat} {g cl g' cl' : Int} (hi : IsIx c i g cl) (hj : IsIx c j g' cl') (hg : 0 ≤ g) (hcl : 0 ≤ cl) (h1 : 1 ≤ g + cl) (hg' : 0 ≤ g') (hcl' : 0 ≤ cl') (h1' : 1 ≤ g' + cl')
    (hr : g * (g' + cl') ≤ g' * (g + cl)) : Fle (topA c i g cl) (undA c i g cl) (topA c j g' cl') (undA c j g' cl') := by
  obtain ⟨i1, i2, i3⟩ := hi
  obtain ⟨j1, j2, j3⟩ := hj
  have bi1 := hc.bd (i := i) (by omega)
  have bi2 := hc.bd (i := i + 1) i1
  have bj1 := hc.bd (i := j) (by omega)
  have bj2 := hc.bd (i := j + 1) j1
  have mi := hc.mono (i + 1) i (by omega) i1
  have mj := hc.mono (j + 1) j (by omega) j1
  have ri0 : i = 0 → (tat c i).r = 0 := fun e => by rw [e]; exact hc.2.1
  have rj0 : j = 0 → (tat c j).r = 0 := fun e => by rw [e]; exact hc.2.1
  have rj9 : j + 2 = c.length → (tat c (j + 1)).r = 1000 := fun e => by rw [show j + 1 = c.length - 1 by omega]; exact hc.2.2.1
  have ri9 : i + 2 = c.length → (tat c (i + 1)).r = 1000 := fun e => by rw [show i + 1 = c.length - 1 by omega]; exact hc.2.2.1
  -- the places of the ratios
  have hij : i ≤ j := by
    refine Nat.le_of_not_lt fun hlt => ?_
    have m := hc.mono i (j + 1) (by omega) (by omega)
    rcases i2 with i2 | i2
    · omega
    rcases j3 with j3 | j3
    · omega
    have k1 : (tat c (j + 1)).r * (g' + cl') ≤ (tat c i).r * (g' + cl') := Int.mul_le_mul_of_nonneg_right m.1 (by omega)
    have k2 : 1000 * g' * (g + cl) ≤ (tat c i).r * (g' + cl') * (g + cl) := Int.mul_le_mul_of_nonneg_right (by omega) (by omega)
    have k3 : (tat c i).r * (g + cl) * (g' + cl') < 1000 * g * (g' + cl') := Int.mul_lt_mul_of_pos_right i2 (by omega)
    grind
  unfold Fle topA undA
  rcases Nat.lt_or_eq_of_le hij with hlt | rfl
  · -- different pieces
    have m := hc.mono j (i + 1) (by omega) (by omega)
    have hi3 : 1000 * g ≤ (tat c (i + 1)).r * (g + cl) := by
      rcases i3 with i3 | i3
      · omega
      · exact i3
    have hj2 : 0 ≤ 1000 * g' - (tat c j).r * (g' + cl') := by
      rcases j2 with j2 | j2 <;> omega
    have d1 : 0 ≤ ((tat c (i + 1)).b - (tat c i).b) * ((tat c (i + 1)).r * (g + cl) - 1000 * g) := Int.mul_nonneg (by omega) (by omega)
    have d2 : 0 ≤ ((tat c (j + 1)).b - (tat c j).b) * (1000 * g' - (tat c j).r * (g' + cl')) := Int.mul_nonneg (by omega) hj2
    generalize tat c i = a at *
    generalize tat c (i + 1) = b at *
    generalize tat c j = a' at *
    generalize tat c (j + 1) = b' at *
    have u1 : 0 ≤ (b.r - a.r) * (g + cl) := Int.mul_nonneg (by omega) (by omega)
    have u2 : 0 ≤ (b'.r - a'.r) * (g' + cl') := Int.mul_nonneg (by omega) (by omega)
    have t1 : a.b * (b.r - a.r) * (g + cl) + (b.b - a.b) * (1000 * g - a.r * (g + cl)) ≤ a'.b * ((b.r - a.r) * (g + cl)) := by
      have h0 : b.b * ((b.r - a.r) * (g + cl)) ≤ a'.b * ((b.r - a.r) * (g + cl)) := Int.mul_le_mul_of_nonneg_right m.2.1 u1
      grind
    have t2 : a'.b * ((b'.r - a'.r) * (g' + cl')) ≤ a'.b * (b'.r - a'.r) * (g' + cl') + (b'.b - a'.b) * (1000 * g' - a'.r * (g' + cl')) := by grind
    have s1 := Int.mul_le_mul_of_nonneg_right t1 u2
    have s2 := Int.mul_le_mul_of_nonneg_right t2 u1
    generalize a.b * (b.r - a.r) * (g + cl) + (b.b - a.b) * (1000 * g - a.r * (g + cl)) = T at *
    generalize a'.b * (b'.r - a'.r) * (g' + cl') + (b'.b - a'.b) * (1000 * g' - a'.r * (g' + cl')) = T' at *
    generalize (b.r - a.r) * (g + cl) = U at *
    generalize (b'.r - a'.r) * (g' + cl') = U' at *
    grind
  · -- the same piece
    generalize tat c i = a at *
    generalize tat c (i + 1) = b at *
    have hw : 0 ≤ (b.b - a.b) * (b.r - a.r) := Int.mul_nonneg (by omega) (by omega)
    have h0 : 0 ≤ (b.b - a.b) * (b.r - a.r) * (g' * (g + cl) - g * (g' + cl')) := Int.mul_nonneg hw (by omega)
    grind
end Go.Proofs.Ytkpafafiaicfpaa
