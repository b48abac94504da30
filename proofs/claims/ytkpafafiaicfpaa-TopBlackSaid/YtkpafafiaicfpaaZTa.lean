/- Contracts of functions of the program, and what follows of them; each theorem states its conditions. -/
import Derived.Test.YtkpafafiaicfpaaZRc
import Derived.Test.YtkpafafiaicfpaaZMb
set_option linter.unusedSimpArgs false
set_option linter.unusedVariables false
set_option linter.unusedSectionVars false
/-! The law TopBlack. -/
namespace Go.Proofs.Ytkpafafiaicfpaa
open Go.Pw

theorem skAt_ok {l : List Sk} (hl : ∀ s ∈ l, s.ok) (k : Int) : (skAt l k).ok := by
  unfold skAt
  cases e : l[k.toNat]? with
  | none => simp [zeroSt, Sk.ok]
  | some s => exact hl s (List.mem_of_getElem? e)

/-- The truth by remainders. -/
def trW (by_ : List Int) (l : List Sk) (k : Int) : Int := pickV by_ (skAt l k).wl (skAt l k).wh (3 * k)
def trC (by_ : List Int) (l : List Sk) (k : Int) : Int := pickV by_ (skAt l k).cl (skAt l k).ch (3 * k + 1)
def trN (by_ : List Int) (l : List Sk) (k : Int) : Int := pickV by_ (skAt l k).nl (skAt l k).nh (3 * k + 2)
def trM (by_ : List Int) (b : List Tk) : List (Tk × Int) := b.mapIdx fun i t => (t, pickV by_ t.lo t.hi (5 * (i : Int) + 2))
def carbon (by_ : List Int) (l : List Sk) (b : List Tk) (k : Nat) : Int := (((trM by_ b).take k).map fun p => p.2 * (1000 - trW by_ l p.1.k) * trC by_ l p.1.k * 1000).sum
def clay (by_ : List Int) (l : List Sk) (b : List Tk) (k : Nat) : Int := (((trM by_ b).take k).map fun p => p.2 * (1000 - trW by_ l p.1.k) * (1000 - trC by_ l p.1.k) * (1000 - trN by_ l p.1.k)).sum

theorem trM_fst (by_ : List Int) (b : List Tk) : (trM by_ b).map (·.1) = b := by
  unfold trM
  apply List.ext_getElem (by simp)
  intro i h1 h2
  simp
theorem trM_len (by_ : List Int) (b : List Tk) : (trM by_ b).length = b.length := by simp [trM]
theorem trM_get (by_ : List Int) (b : List Tk) {k : Nat} (hk : k < b.length) : (trM by_ b)[k]'(by rw [trM_len]; exact hk) = (b[k], pickV by_ b[k].lo b[k].hi (5 * (k : Int) + 2)) := by simp [trM]
theorem trM_in {by_ : List Int} (hp : ∀ x ∈ by_, 0 ≤ x) {b : List Tk} {n : Nat} (hb : ∀ t ∈ b, t.ok n) : ∀ p ∈ trM by_ b, p.1.lo ≤ p.2 ∧ p.2 ≤ p.1.hi := fun p hpp => by
  unfold trM at hpp
  rw [List.mem_mapIdx] at hpp
  obtain ⟨i, hi, rfl⟩ := hpp
  exact pickV_in (hb _ (List.getElem_mem hi)).2.2.1 hp
theorem tr_box {by_ : List Int} (hp : ∀ x ∈ by_, 0 ≤ x) {l : List Sk} (hl : ∀ s ∈ l, s.ok) (k : Int) : (skAt l k).box (trW by_ l k) (trC by_ l k) (trN by_ l k) := by
  obtain ⟨h1, h2, h3⟩ := skAt_ok hl k
  exact ⟨pickV_in h1.2.1 hp, pickV_in h2.2.1 hp, pickV_in h3.2.1 hp⟩
theorem tr_in {by_ : List Int} (hp : ∀ x ∈ by_, 0 ≤ x) {l : List Sk} (hl : ∀ s ∈ l, s.ok) (k : Int) : In3 (trW by_ l k) (trC by_ l k) (trN by_ l k) := by
  obtain ⟨b1, b2, b3⟩ := tr_box hp hl k
  obtain ⟨h1, h2, h3⟩ := skAt_ok hl k
  refine ⟨?_, ?_, ?_⟩ <;> omega

theorem carbon_snoc {by_ : List Int} {l : List Sk} {b : List Tk} {k : Nat} (hk : k < b.length) : carbon by_ l b (k + 1) = carbon by_ l b k + pickV by_ b[k].lo b[k].hi (5 * (k : Int) + 2) * (1000 - trW by_ l b[k].k) * trC by_ l b[k].k * 1000 := by
  unfold carbon
  rw [List.take_succ_eq_append_getElem (by rw [trM_len]; exact hk), sum_snoc, trM_get by_ b hk]
theorem clay_snoc {by_ : List Int} {l : List Sk} {b : List Tk} {k : Nat} (hk : k < b.length) : clay by_ l b (k + 1) = clay by_ l b k + pickV by_ b[k].lo b[k].hi (5 * (k : Int) + 2) * (1000 - trW by_ l b[k].k) * (1000 - trC by_ l b[k].k) * (1000 - trN by_ l b[k].k) := by
  unfold clay
  rw [List.take_succ_eq_append_getElem (by rw [trM_len]; exact hk), sum_snoc, trM_get by_ b hk]
theorem carbon_eq (by_ : List Int) (l : List Sk) (b : List Tk) : carbon by_ l b b.length = ((trM by_ b).map fun p => p.2 * coal (trW by_ l p.1.k) (trC by_ l p.1.k) (trN by_ l p.1.k)).sum := by
  unfold carbon
  rw [List.take_of_length_le (by rw [trM_len]; exact Nat.le_refl _)]
  congr 1
  apply List.map_congr_left
  intro p _
  simp only [coal]; grind
theorem clay_eq (by_ : List Int) (l : List Sk) (b : List Tk) : clay by_ l b b.length = ((trM by_ b).map fun p => p.2 * baked (trW by_ l p.1.k) (trC by_ l p.1.k) (trN by_ l p.1.k)).sum := by
  unfold clay
  rw [List.take_of_length_le (by rw [trM_len]; exact Nat.le_refl _)]
  congr 1
  apply List.map_congr_left
  intro p _
  simp only [baked]; grind
theorem over_eq (by_ : List Int) (l : List Sk) (b : List Tk) (k : Int) : ((trM by_ b).map fun p => p.2 * over k (trW by_ l p.1.k) (trC by_ l p.1.k) (trN by_ l p.1.k)).sum = 1000 * carbon by_ l b b.length - k * (carbon by_ l b b.length + clay by_ l b b.length) := by
  rw [carbon_eq, clay_eq]
  induction trM by_ b with
  | nil => simp
  | cons p L ih =>
    simp only [List.map_cons, List.sum_cons, ih]
    have e : over k (trW by_ l p.1.k) (trC by_ l p.1.k) (trN by_ l p.1.k) = 1000 * coal (trW by_ l p.1.k) (trC by_ l p.1.k) (trN by_ l p.1.k) - k * (coal (trW by_ l p.1.k) (trC by_ l p.1.k) (trN by_ l p.1.k) + baked (trW by_ l p.1.k) (trC by_ l p.1.k) (trN by_ l p.1.k)) := rfl
    rw [e]
    grind

/-- What is weighed, and what is true. -/
structure Facts (by_ : List Int) (l : List Sk) (b : List Tk) : Prop where
  c1 : sumLo coal (newB l b) ≤ carbon by_ l b b.length ∧ carbon by_ l b b.length ≤ sumHi coal (newB l b)
  c2 : sumLo baked (newB l b) ≤ clay by_ l b b.length ∧ clay by_ l b b.length ≤ sumHi baked (newB l b)
  c3 : ∀ k, sumLo (over k) (newB l b) ≤ 1000 * carbon by_ l b b.length - k * (carbon by_ l b b.length + clay by_ l b b.length) ∧ 1000 * carbon by_ l b b.length - k * (carbon by_ l b b.length + clay by_ l b b.length) ≤ sumHi (over k) (newB l b)
  c4 : 0 ≤ sumLo coal (newB l b) ∧ sumHi coal (newB l b) ≤ (b.map (·.hi)).sum * 1000000000
  c5 : 0 ≤ sumLo baked (newB l b) ∧ sumHi baked (newB l b) ≤ (b.map (·.hi)).sum * 1000000000
  c6 : (0 ≤ shLo (newB l b) ∧ shLo (newB l b) ≤ 1000) ∧ (0 ≤ shHi (newB l b) ∧ shHi (newB l b) ≤ 1000)
  c7 : shLo (newB l b) * (carbon by_ l b b.length + clay by_ l b b.length) ≤ 1000 * carbon by_ l b b.length
  c8 : 1000 * carbon by_ l b b.length ≤ shHi (newB l b) * (carbon by_ l b b.length + clay by_ l b b.length)

theorem facts {by_ : List Int} (hp : ∀ x ∈ by_, 0 ≤ x) {l : List Sk} {b : List Tk} (hl : ∀ s ∈ l, s.ok) (hb : ∀ t ∈ b, t.ok l.length) : Facts by_ l b := by
  have hbox := tr_box hp hl
  have htm := trM_in hp hb
  have t1 := truth_in ma_coal l (trM by_ b) htm (trW by_ l) (trC by_ l) (trN by_ l) hbox
  have t2 := truth_in ma_baked l (trM by_ b) htm (trW by_ l) (trC by_ l) (trN by_ l) hbox
  have t3 := fun k => truth_in (ma_over k) l (trM by_ b) htm (trW by_ l) (trC by_ l) (trN by_ l) hbox
  rw [trM_fst, ← carbon_eq] at t1
  rw [trM_fst, ← clay_eq] at t2
  have t3' : ∀ k, sumLo (over k) (newB l b) ≤ 1000 * carbon by_ l b b.length - k * (carbon by_ l b b.length + clay by_ l b b.length) ∧ 1000 * carbon by_ l b b.length - k * (carbon by_ l b b.length + clay by_ l b b.length) ≤ sumHi (over k) (newB l b) := fun k => by
    have := t3 k
    rw [trM_fst, over_eq] at this
    exact this
  have s1 := sumHi_le (F := coal) (B := 1000000000) (by omega) l hl b hb fun w c n hw => by have := coal_bd hw; unfold coal; omega
  have s2 := sumHi_le (F := baked) (B := 1000000000) (by omega) l hl b hb fun w c n hw => baked_bd hw
  have s3 := sumHi_le (F := over 0) (B := 1000000000000) (by omega) l hl b hb fun w c n hw => by
    have := coal_bd hw
    unfold over coal; omega
  obtain ⟨i1, i2, i3, i4, i5, i6⟩ := sh_spec (newB l b)
  have hlo : 0 ≤ shLo (newB l b) := by
    refine Int.not_lt.1 fun hlt => ?_
    have e : shLo (newB l b) + 1 = 0 := by omega
    rcases i4 with i4 | i4
    · omega
    · rw [e] at i4; omega
  refine ⟨t1, t2, t3', s1, s2, ⟨⟨hlo, i1.2⟩, i2⟩, ?_, ?_⟩
  · have := (t3' (shLo (newB l b))).1
    rcases i3 with i3 | i3 <;> omega
  · have := (t3' (shHi (newB l b))).2
    rcases i6 with i6 | i6
    · rw [i6]; omega
    · omega

theorem mix_fle {c : List Tn} (hc : CurveOk c) {g cl A D : Int} {i : Nat} (hg : 1 ≤ g) (hcl : 0 ≤ cl) (hix : IsIx c i A D) (hA : 1 ≤ A) (hD : 0 ≤ D) (h : g * (A + D) ≤ A * (g + cl)) : Fle (mixTop c g cl) (mixUnder c g cl) (topA c i A D) (undA c i A D) := by
  obtain ⟨h1, h2, h3, _⟩ := mixIx_spec hc g cl
  exact curve_mono hc (i := mixIx c g cl) ⟨h1, h2, h3⟩ hix (by omega) hcl (by omega) (by omega) hD (by omega) h
theorem fle_mix {c : List Tn} (hc : CurveOk c) {g cl A D : Int} {i : Nat} (hg : 1 ≤ g) (hcl : 0 ≤ cl) (hix : IsIx c i A D) (hA : 1 ≤ A) (hD : 0 ≤ D) (h : A * (g + cl) ≤ g * (A + D)) : Fle (topA c i A D) (undA c i A D) (mixTop c g cl) (mixUnder c g cl) := by
  obtain ⟨h1, h2, h3, _⟩ := mixIx_spec hc g cl
  exact curve_mono hc (j := mixIx c g cl) hix ⟨h1, h2, h3⟩ (by omega) hD (by omega) (by omega) hcl (by omega) h

theorem black_ok {c : List Tn} (hc : CurveOk c) {X : Lds} {A D n : Int} {i : Nat} (h1 : 1 ≤ X.gl ∧ X.gl ≤ X.gh ∧ X.gh ≤ 1073741824) (h2 : 0 ≤ X.cl ∧ X.cl ≤ X.ch ∧ X.ch ≤ 1073741824) (h3 : 0 ≤ X.tol ∧ X.tol ≤ 200) (h4 : X.ss = []) (h5 : X.sl = 0 ∧ X.sh = 0 ∧ X.wl = 0 ∧ X.wh = 0 ∧ X.many = 0)
    (hix : IsIx c i A D) (hA : 1 ≤ A ∧ X.gl * 1000000000 ≤ A ∧ A ≤ X.gh * 1000000000) (hD : 0 ≤ D ∧ X.cl * 1000000000 ≤ D ∧ D ≤ X.ch * 1000000000) (hu : 1 ≤ undA c i A D) (ht : 0 ≤ topA c i A D)
    (hn1 : (topA c i A D + undA c i A D - 1) / undA c i A D - X.tol ≤ n) (hn2 : n ≤ topA c i A D / undA c i A D + X.tol) (hn3 : 0 ≤ n ∧ n ≤ 200) : (blackR c X).2.2 = 0 ∧ (blackR c X).1 ≤ n ∧ n ≤ (blackR c X).2.1 := by
  have hok : X.ok := by
    obtain ⟨a1, a2, a3, a4, a5⟩ := h5
    refine ⟨⟨h1, h2, h3⟩, ⟨?_, ?_, ?_⟩, by rw [h4]; simp, by rw [h4]; rfl⟩ <;> omega
  have m1 := mix_bd hc (g := X.gl) (cl := X.ch) (by omega) (by omega)
  have m2 := mix_bd hc (g := X.gh) (cl := X.cl) (by omega) (by omega)
  have r1 : X.gl * (A + D) ≤ A * (X.gl + X.ch) := by
    have k1 : X.gl * D ≤ X.gl * (X.ch * 1000000000) := Int.mul_le_mul_of_nonneg_left hD.2.2 (by omega)
    have k2 : X.gl * 1000000000 * X.ch ≤ A * X.ch := Int.mul_le_mul_of_nonneg_right hA.2.1 (by omega)
    grind
  have r2 : A * (X.gh + X.cl) ≤ X.gh * (A + D) := by
    have k1 : X.gh * (X.cl * 1000000000) ≤ X.gh * D := Int.mul_le_mul_of_nonneg_left hD.2.1 (by omega)
    have k2 : A * X.cl ≤ X.gh * 1000000000 * X.cl := Int.mul_le_mul_of_nonneg_right hA.2.2 (by omega)
    grind
  have l1 := fup_le m1.2.1.1 hu (mix_fle hc (by omega) (by omega) hix hA.1 hD.1 r1)
  have l2 := fdown_le hu m2.2.1.1 ht (fle_mix hc (by omega) (by omega) hix hA.1 hD.1 r2)
  have e1 : blkLo c X = max 0 (recLo c X) := by unfold blkLo los; rw [h4]; rfl
  have e2 : blkHi c X = min 200 (recHi c X) := by unfold blkHi his; rw [h4]; rfl
  have b1 : blkLo c X ≤ n := by rw [e1]; unfold recLo; omega
  have b2 : n ≤ blkHi c X := by rw [e2]; unfold recHi; omega
  unfold blackR
  rw [if_pos hc, if_pos hok, if_neg (by omega)]
  exact ⟨rfl, b1, b2⟩
end Go.Proofs.Ytkpafafiaicfpaa
