/- The abstract logic in which the functions of the program are walked, part 13. No condition. -/
import Derived.Test.YtkpafafiaicfpaaPwK
set_option linter.unusedSimpArgs false
set_option linter.unusedVariables false
set_option linter.unusedSectionVars false
/-! The abstract logic, part L: regions whose order is drawn. -/
namespace Go.Pw
open Go.RowKit (Below)

theorem gateW_cases {σ : Tm} {g : Option (Nat × Bool)} {yes no : Prop} (h : gateW σ g yes no) : (yes ∧ ∀ y n, gateW σ g y n = y) ∨ (no ∧ ∀ y n, gateW σ g y n = n) := by
  unfold gateW at h ⊢
  split at h
  · exact .inl ⟨h, fun _ _ => rfl⟩
  · split at h
    · split at h
      · rename_i hb; exact .inl ⟨h, fun _ _ => by rw [if_pos hb]⟩
      · rename_i hb; exact .inr ⟨h, fun _ _ => by rw [if_neg hb]⟩
    · exact .inr ⟨h, fun _ _ => rfl⟩
    · exact h.elim

theorem aevs_congr {σ σ' : Tm} : ∀ {xs : List Operand}, (∀ t, Operand.tmp t ∈ xs → lk σ' t = lk σ t) → aevs σ' xs = aevs σ xs
  | [], _ => rfl
  | x :: xs, h => by
    have h1 : aev σ' x = aev σ x := by cases x <;> first | rfl | exact h _ (by simp)
    have h2 : aevs σ' xs = aevs σ xs := aevs_congr fun t m => h t (List.mem_cons_of_mem _ m)
    simp only [aevs, h1, h2]
theorem gateW_congr {σ σ' : Tm} {g : Option (Nat × Bool)} (h : ∀ t w, g = some (t, w) → lk σ' t = lk σ t) (y n : Prop) : gateW σ' g y n = gateW σ g y n := by
  unfold gateW
  cases g with
  | none => rfl
  | some tw => obtain ⟨t, w⟩ := tw; simp only [h t w rfl]

theorem mem_reads_op {o : AOper} {t : Nat} (h : Operand.tmp t ∈ o.xs) : t ∈ o.reads := by
  unfold AOper.reads
  exact List.mem_append_left _ (List.mem_filterMap.2 ⟨_, h, rfl⟩)
theorem mem_reads_g {o : AOper} {t : Nat} {w : Bool} (h : o.g = some (t, w)) : t ∈ o.reads := by
  unfold AOper.reads
  exact List.mem_append_right _ (by simp [h])

theorem lk_put_ne {σ : Tm} {d : Option Nat} {v : Value} {t : Nat} (h : d ≠ some t) : lk (putσ σ d v) t = lk σ t := by
  cases d with
  | none => rfl
  | some d => simp only [putσ, lk_stt]; rw [if_neg (fun e => h (by rw [e]))]

section
variable {P : Program} {w0 : Fr} {N : Nat} {ops : Array Oper} {fo : List AOper} {bf : List Nat} {n0 : Nat} {K : Tm → AH → Prop} {r : Option Nat}

theorem bef_listed (hok : okBef ops bf = true) {listed : Array Bool} (hcl : ∀ i, i < ops.size → listed.getD i false = true → ∀ e ∈ onOf ops i, listed.getD e false = true) :
    ∀ (i j : Nat), i < ops.size → j < ops.size → (∀ e ∈ onOf ops i, listed.getD e false = true) → bef bf i j = true → listed.getD j false = true := by
  intro i
  induction i using Nat.strongRecOn with
  | _ i ih =>
    intro j hi hj hon hb
    unfold okBef at hok
    have h1 := List.all_eq_true.1 hok i (List.mem_range.2 hi)
    simp only [Bool.and_eq_true] at h1
    have h2 := List.all_eq_true.1 h1.2 j (List.mem_range.2 hj)
    simp only [hb, Bool.not_true, Bool.false_or, List.any_eq_true, Bool.or_eq_true, beq_iff_eq] at h2
    obtain ⟨e, he, h3⟩ := h2
    rcases h3 with rfl | h3
    · exact hon _ he
    · have hlt : e < i := by simpa using List.all_eq_true.1 h1.1 e he
      exact ih e hlt j (by omega) hj (hcl e (by omega) (hon e he)) h3

theorem free_reads {i : Nat} (h : freeB ops fo bf i = true) {d y : Nat} (hd : (opAt fo i).dst = some d) (hy : y < ops.size) (hr : d ∈ (opAt fo y).reads) : y ≠ i ∧ bef bf y i = true := by
  unfold freeB lateB at h
  rw [hd] at h
  simp only [Bool.and_eq_true, Bool.not_eq_true', List.any_eq_false, List.mem_range] at h
  have := h.2 y hy
  simp only [Bool.and_eq_true, List.contains_eq_mem, decide_eq_true_eq, Bool.or_eq_true, beq_iff_eq, Bool.not_eq_true', not_and, not_or] at this
  have := this hr
  exact ⟨this.1, by simpa using this.2⟩
theorem free_kind {i : Nat} (h : freeB ops fo bf i = true) : (opAt fo i).opc.kind < 3 ∧ ∃ d, (opAt fo i).dst = some d := by
  unfold freeB at h
  simp only [Bool.and_eq_true, decide_eq_true_eq] at h
  exact ⟨h.1.1, Option.isSome_iff_exists.1 h.1.2⟩

/-- An operation that is known ahead of its turn. -/
def Pd (fo : List AOper) (n0 : Nat) (σ : Tm) (h : AH) (ι : Inj) (i : Nat) : Prop :=
  ∃ d v, (opAt fo i).dst = some d ∧ lk σ d = some v ∧
    gateW σ (opAt fo i).g (∃ vs nb, aevs σ (opAt fo i).xs = some vs ∧ sem (bOf v) (opAt fo i).opc vs h = some (v, nb, h) ∧ ∀ k, nb = some k → h[bOf v]? = some k ∧ ι (bOf v) = none ∧ n0 ≤ bOf v) (v = undef)

structure DI (P : Program) (w0 : Fr) (N : Nat) (ops : Array Oper) (fo : List AOper) (bf : List Nat) (n0 : Nat) (ch prev rest : List Nat) (ι : Inj) (σ : Tm) (h : AH) (listed : Array Bool) (a : Act) (w : World) : Prop where
  lsize : listed.size = ops.size
  len : n0 ≤ h.length
  size : a.tmps.size = N
  closed : ∀ i, i < ops.size → listed.getD i false = true → ∀ e ∈ onOf ops i, listed.getD e false = true
  chain : ∀ i, i < ops.size → freeB ops fo bf i = false → (listed.getD i false = true ↔ i ∉ ch)
  chn : ∀ i ∈ ch, i < ops.size ∧ freeB ops fo bf i = false
  prevl : ∀ i, i < ops.size → freeB ops fo bf i = true → listed.getD i false = true → i ∈ prev
  prevf : ∀ i ∈ prev, i < ops.size ∧ freeB ops fo bf i = true
  no : ∀ i ∈ prev, ∀ e ∈ ch, bef bf i e = false
  dir : ∀ y ∈ prev, ∀ i ∈ rest, inOrd ops fo bf y i = true
  ndst : ∀ y ∈ prev, ∀ i ∈ prev, y ≠ i → (opAt fo y).dst ≠ (opAt fo i).dst
  tr : ∀ t, (∀ i ∈ prev, listed.getD i false = false → (opAt fo i).dst ≠ some t) → T1 ι σ a.tmps t
  hr : HR (flatC P) w0 ι h w
  pend : ∀ i ∈ prev, listed.getD i false = false → Pd fo n0 σ h ι i
  dist : ∀ i ∈ prev, ∀ j ∈ prev, listed.getD i false = false → listed.getD j false = false → i ≠ j → (opAt fo i).opc.kind = 2 → (opAt fo j).opc.kind = 2 →
    ∀ d v d' v', (opAt fo i).dst = some d → lk σ d = some v → (opAt fo j).dst = some d' → lk σ d' = some v' → v ≠ undef → v' ≠ undef → bOf v ≠ bOf v'

theorem Pd.congr {σ σ' : Tm} {h : AH} {ι : Inj} {i : Nat} (hp : Pd fo n0 σ h ι i) (hs : ∀ t, t ∈ (opAt fo i).reads → lk σ' t = lk σ t) (hd : ∀ d, (opAt fo i).dst = some d → lk σ' d = lk σ d) : Pd fo n0 σ' h ι i := by
  obtain ⟨d, v, h1, h2, h3⟩ := hp
  refine ⟨d, v, h1, (hd d h1).trans h2, ?_⟩
  rw [gateW_congr (fun t w e => hs t (mem_reads_g e)), aevs_congr (fun t m => hs t (mem_reads_op m))]
  exact h3

theorem kind_alloc {b : Nat} {opc : Opc} {vs : List Value} {h h' : AH} {v : Value} {nb : Option Blk} (hk : opc.kind < 3) (hs : sem b opc vs h = some (v, nb, h')) (hn : nb.isSome = true) : opc.kind = 2 := by
  rcases Nat.lt_or_ge opc.kind 1 with h0 | h0
  · rw [(sem_pure (by omega) hs).1] at hn; simp at hn
  · rcases Nat.lt_or_ge opc.kind 2 with h1 | h1
    · rw [(sem_read (by omega) hs).1] at hn; simp at hn
    · omega

theorem sem_alloc_ne {b : Nat} {opc : Opc} {vs : List Value} {h h' : AH} {v : Value} {nb : Option Blk} (hk : opc.kind = 2) (hs : sem b opc vs h = some (v, nb, h')) : v ≠ undef := by
  rintro rfl
  cases opc <;> simp [Opc.kind] at hk
  all_goals
    unfold sem at hs
    split at hs <;> first | contradiction | (cases hs; done) | skip
  all_goals
    first
    | (simp [undef] at hs; done)
    | (simp [undef, Option.map_eq_some_iff] at hs; done)
    | (split at hs <;> simp [undef] at hs)

/-- A free step: at any block number, in any greater heap. -/
theorem sem_free {opc : Opc} {vs : List Value} {h h' : AH} {v : Value} {nb : Option Blk} (hk : opc.kind < 3) (hs : sem h.length opc vs h = some (v, nb, h')) :
    h' = h ∧ sem (bOf v) opc vs (h ++ nb.toList) = some (v, nb, h ++ nb.toList) ∧ ∀ k, nb = some k → bOf v = h.length := by
  rcases Nat.lt_or_ge opc.kind 1 with h0 | h0
  · obtain ⟨rfl, e, h2⟩ := sem_pure (by omega) hs
    exact ⟨e, h2 _ _, fun k e => by cases e⟩
  · rcases Nat.lt_or_ge opc.kind 2 with h1 | h1
    · obtain ⟨rfl, e, h2⟩ := sem_read (by omega) hs
      exact ⟨e, h2 _ _, fun k e => by cases e⟩
    · obtain ⟨k, rfl, e, hb, h2⟩ := sem_alloc (by omega) hs
      refine ⟨e, ?_, fun _ _ => hb⟩
      rw [hb]
      exact h2 _

theorem sem_grow {opc : Opc} {vs : List Value} {h : AH} {v : Value} {nb : Option Blk} {b : Nat} (hk : opc.kind < 3) (hs : sem b opc vs h = some (v, nb, h)) (k : AH) : sem b opc vs (h ++ k) = some (v, nb, h ++ k) := by
  rcases Nat.lt_or_ge opc.kind 1 with h0 | h0
  · obtain ⟨rfl, e, h2⟩ := sem_pure (by omega) hs
    exact h2 _ _
  · rcases Nat.lt_or_ge opc.kind 2 with h1 | h1
    · obtain ⟨rfl, e, h2⟩ := sem_read (by omega) hs
      exact h2 _ _
    · obtain ⟨k, rfl, e, hb, h2⟩ := sem_alloc (by omega) hs
      exact h2 _

theorem Pd.grow {σ : Tm} {h : AH} {ι : Inj} {i : Nat} (hk : (opAt fo i).opc.kind < 3) (hp : Pd fo n0 σ h ι i) (k : AH) : Pd fo n0 σ (h ++ k) ι i := by
  obtain ⟨d, v, h1, h2, h3⟩ := hp
  refine ⟨d, v, h1, h2, ?_⟩
  rcases gateW_cases h3 with ⟨⟨vs, nb, e1, e2, e3⟩, hg⟩ | ⟨e, hg⟩
  · rw [hg]
    exact ⟨vs, nb, e1, sem_grow hk e2 k, fun x hx => ⟨get_push (e3 x hx).1, (e3 x hx).2⟩⟩
  · rw [hg]; exact e

/-- Free operations are met: nothing happens as yet. -/
theorem news_sound (ch : List Nat) {its : List It} : ∀ (new rest prev : List Nat) (ι : Inj) (σ : Tm) (h : AH) (listed : Array Bool) (a : Act) (w : World),
    DI P w0 N ops fo bf n0 ch prev (new ++ rest) ι σ h listed a w → pw (inOrd ops fo bf) new = true →
    (∀ i ∈ new, i < ops.size ∧ freeB ops fo bf i = true ∧ listed.getD i false = false ∧ i ∉ prev ∧ ∀ e ∈ ch, bef bf i e = false) → new.Nodup → (∀ y ∈ new, ∀ i ∈ rest, inOrd ops fo bf y i = true) →
    regW P (new.map (fun i => .ev (opAt fo i)) ++ its) σ h K → ∃ σ' h', h.length ≤ h'.length ∧ regW P its σ' h' K ∧ DI P w0 N ops fo bf n0 ch (prev ++ new) rest ι σ' h' listed a w
  | [], rest, prev, ι, σ, h, listed, a, w, D, _, _, _, _, hW => ⟨σ, h, Nat.le_refl _, hW, by simpa using D⟩
  | i :: new, rest, prev, ι, σ, h, listed, a, w, D, hpw, hnew, hnd, hdir, hW => by
    obtain ⟨hi, hfr, hul, hnp, hno⟩ := hnew i (by simp)
    obtain ⟨hk, d, hd⟩ := free_kind hfr
    simp only [pw, Bool.and_eq_true] at hpw
    have hself : d ∉ (opAt fo i).reads := fun hm => (free_reads hfr hd hi hm).1 rfl
    have hearl : ∀ y ∈ prev, d ∉ (opAt fo y).reads ∧ (opAt fo y).dst ≠ some d := fun y hy => by
      have := D.dir y hy i (by simp)
      simp only [inOrd, hd, hfr, Bool.and_eq_true, Bool.not_true, Bool.false_and, Bool.or_false, bne_iff_ne, Bool.not_eq_true', List.contains_eq_mem, decide_eq_false_iff_not] at this
      exact ⟨this.1.2, this.1.1⟩
    have hpl : ∀ y ∈ prev, y < ops.size ∧ (opAt fo y).opc.kind < 3 := fun y hy => ⟨(D.prevf y hy).1, (free_kind (D.prevf y hy).2).1⟩
    -- the value, the new heap
    have main : ∀ (v : Value) (nb : Option Blk), (∀ k, nb = some k → bOf v = h.length ∧ (opAt fo i).opc.kind = 2) → Pd fo n0 (putσ σ (some d) v) (h ++ nb.toList) ι i → (v ≠ undef → (opAt fo i).opc.kind = 2 → bOf v = h.length) →
        regW P (new.map (fun i => .ev (opAt fo i)) ++ its) (putσ σ (some d) v) (h ++ nb.toList) K →
        ∃ σ' h', h.length ≤ h'.length ∧ regW P its σ' h' K ∧ DI P w0 N ops fo bf n0 ch (prev ++ i :: new) rest ι σ' h' listed a w := fun v nb hal hpd hbv hW => by
      have hpend : ∀ y ∈ prev, listed.getD y false = false → Pd fo n0 (putσ σ (some d) v) (h ++ nb.toList) ι y := fun y hy hl =>
        ((D.pend y hy hl).grow (hpl y hy).2 _).congr (fun t ht => lk_put_ne (fun e => (hearl y hy).1 (by cases e; exact ht))) (fun x hx => lk_put_ne (fun e => (hearl y hy).2 (by rw [hx, e])))
      have D' : DI P w0 N ops fo bf n0 ch (prev ++ [i]) (new ++ rest) ι (putσ σ (some d) v) (h ++ nb.toList) listed a w :=
        { lsize := D.lsize, len := by have := D.len; simp; omega, size := D.size, closed := D.closed, chain := D.chain, chn := D.chn
          prevl := fun j hj hf hl => List.mem_append_left _ (D.prevl j hj hf hl)
          prevf := fun j hj => by
            rcases List.mem_append.1 hj with hj | hj
            · exact D.prevf j hj
            · simp at hj; subst hj; exact ⟨hi, hfr⟩
          no := fun j hj => by
            rcases List.mem_append.1 hj with hj | hj
            · exact D.no j hj
            · simp at hj; subst hj; exact hno
          dir := fun y hy j hj => by
            rcases List.mem_append.1 hy with hy | hy
            · exact D.dir y hy j (by simp at hj ⊢; exact .inr hj)
            · simp at hy; subst hy
              rcases List.mem_append.1 hj with hj | hj
              · exact List.all_eq_true.1 hpw.1 j hj
              · exact hdir y (by simp) j hj
          ndst := fun y hy j hj hne => by
            rcases List.mem_append.1 hy with py | py <;> rcases List.mem_append.1 hj with pj | pj
            · exact D.ndst y py j pj hne
            · simp at pj; subst pj; rw [hd]; exact (hearl y py).2
            · simp at py; subst py; rw [hd]; exact fun e => (hearl j pj).2 e.symm
            · simp at py pj; exact absurd (py.trans pj.symm) hne
          tr := fun t ht => by
            have h1 : (some d) ≠ some t := by have := ht i (by simp) hul; rw [hd] at this; exact this
            intro x hx
            rw [lk_put_ne h1] at hx
            exact D.tr t (fun j hj hl => ht j (by simp [hj]) hl) x hx
          hr := D.hr.push _
          pend := fun j hj hl => by
            rcases List.mem_append.1 hj with hj | hj
            · exact hpend j hj hl
            · simp at hj; subst hj; exact hpd
          dist := fun y hy j hj ly lj hne k1 k2 d1 v1 d2 v2 e1 f1 e2 f2 n1 n2 => by
            have old : ∀ y ∈ prev, listed.getD y false = false → (opAt fo y).opc.kind = 2 → ∀ d1 v1, (opAt fo y).dst = some d1 → lk (putσ σ (some d) v) d1 = some v1 → v1 ≠ undef → lk σ d1 = some v1 ∧ bOf v1 < h.length := fun y hy ly k1 d1 v1 e1 f1 n1 => by
              rw [lk_put_ne (fun e => (hearl y hy).2 (by rw [e1, e]))] at f1
              refine ⟨f1, ?_⟩
              obtain ⟨d', v', p1, p2, p3⟩ := D.pend y hy ly
              rw [e1] at p1; cases p1
              rw [f1] at p2; cases p2
              rcases gateW_cases p3 with ⟨⟨vs, nb, q1, q2, q3⟩, _⟩ | ⟨e, _⟩
              · obtain ⟨k, rfl, _⟩ := sem_alloc k1 q2
                exact (List.getElem?_eq_some_iff.1 (q3 k rfl).1).1
              · exact absurd e n1
            have new1 : lk (putσ σ (some d) v) d = some v := by simp [putσ, lk_stt]
            rcases List.mem_append.1 hy with py | py <;> rcases List.mem_append.1 hj with pj | pj
            · exact D.dist y py j pj ly lj hne k1 k2 d1 v1 d2 v2 e1 (old y py ly k1 d1 v1 e1 f1 n1).1 e2 (old j pj lj k2 d2 v2 e2 f2 n2).1 n1 n2
            · simp at pj; subst pj
              rw [hd] at e2; cases e2
              rw [new1] at f2; cases f2
              have h1 := (old y py ly k1 d1 v1 e1 f1 n1).2
              have h2 := hbv n2 k2
              omega
            · simp at py; subst py
              rw [hd] at e1; cases e1
              rw [new1] at f1; cases f1
              have h1 := (old j pj lj k2 d2 v2 e2 f2 n2).2
              have h2 := hbv n1 k1
              omega
            · simp at py pj; exact absurd (py.trans pj.symm) hne }
      obtain ⟨σ', h', q1, q2, q3⟩ := news_sound ch new rest (prev ++ [i]) ι _ _ listed a w D' hpw.2 (fun j hj => by
        obtain ⟨a1, a2, a3, a4, a5⟩ := hnew j (by simp [hj])
        refine ⟨a1, a2, a3, fun hm => ?_, a5⟩
        rcases List.mem_append.1 hm with hm | hm
        · exact a4 hm
        · simp at hm; subst hm; exact (List.nodup_cons.1 hnd).1 hj) (List.nodup_cons.1 hnd).2 (fun y hy => hdir y (by simp [hy])) hW
      exact ⟨σ', h', by simp at q1; omega, q2, by simpa using q3⟩
    simp only [List.map_cons, List.cons_append, regW] at hW
    rw [hd] at hW
    have hlk : ∀ v : Value, lk (putσ σ (some d) v) d = some v := fun v => by simp [putσ, lk_stt]
    have hsame : ∀ (v : Value) t, t ∈ (opAt fo i).reads → lk (putσ σ (some d) v) t = lk σ t := fun v t ht => lk_put_ne (fun e => hself (by cases e; exact ht))
    rcases gateW_cases hW with ⟨hW, hg⟩ | ⟨hW, hg⟩
    · split at hW
      · rename_i vs hvs
        have hW' : ∃ v nb h', sem h.length (opAt fo i).opc vs h = some (v, nb, h') ∧ regW P (new.map (fun i => .ev (opAt fo i)) ++ its) (putσ σ (some d) v) (h' ++ nb.toList) K := by
          rw [← semE_kind hk]
          revert hW hk
          generalize (opAt fo i).opc = opc
          intro hk hW
          cases opc <;> first | (simp [Opc.kind] at hk; done) | skip
          all_goals
            simp only [opV] at hW
            split at hW
            · rename_i v nb h' e; exact ⟨v, nb, h', e, hW⟩
            · exact hW.elim
        obtain ⟨v, nb, h', hs, hW2⟩ := hW'
        obtain ⟨rfl, hs2, hb⟩ := sem_free hk hs
        have hal : nb.isSome = true → (opAt fo i).opc.kind = 2 := kind_alloc hk hs
        refine main v nb (fun k hk' => ⟨hb k hk', hal (by rw [hk']; rfl)⟩) ⟨d, v, hd, hlk v, ?_⟩ (fun _ h2 => by obtain ⟨k, hk', _⟩ := sem_alloc h2 hs; exact hb k hk') hW2
        rw [gateW_congr (fun t w e => hsame v t (mem_reads_g e)), hg]
        refine ⟨vs, nb, by rw [aevs_congr (fun t m => hsame v t (mem_reads_op m))]; exact hvs, hs2, fun k hk' => ⟨?_, ?_⟩⟩
        · rw [hb k hk', hk']; simp
        · rw [hb k hk']
          refine ⟨?_, D.len⟩
          cases e : ι h'.length with
          | none => rfl
          | some y => exact absurd (D.hr.dom _ _ e).1 (by omega)
      · exact hW.elim
    · have := main undef none (fun k e => by cases e) ⟨d, undef, hd, hlk undef, by rw [gateW_congr (fun t w e => hsame undef t (mem_reads_g e)), hg]⟩ (fun e => absurd rfl e) (by simpa using hW)
      exact this

theorem unl_set {listed : Array Bool} {i : Nat} (hi : i < listed.size) (hu : listed.getD i false = false) : (listed.setIfInBounds i true).toList.count false + 1 = listed.toList.count false := by
  have e : listed.toList[i]'(by simpa using hi) = false := by simpa [hi] using hu
  have h0 : 0 < listed.toList.count false := List.count_pos_iff.2 (by rw [← e]; exact List.getElem_mem _)
  rw [Array.toList_setIfInBounds, List.count_set (by simpa using hi), e]
  rw [if_pos (by decide), if_neg (by decide)]
  omega

/-- A free operation comes up. -/
theorem take_sound (hok : okBef ops bf = true) (hfo : ∀ i o, ops[i]? = some o → flatOper P N ops o = some (opAt fo i)) {ch prev rest : List Nat} {ι : Inj} {σ : Tm} {h : AH} {listed : Array Bool} {a : Act} {w : World}
    (D : DI P w0 N ops fo bf n0 ch prev rest ι σ h listed a w) {i : Nat} (hip : i ∈ prev) (hl : listed.getD i false = false) (hon : ∀ e ∈ onOf ops i, listed.getD e false = true)
    {Q : Exit → Act → World → Prop} {next : Act → World → Prop}
    (hn : ∀ ι' a' w', Ext n0 ι ι' → DI P w0 N ops fo bf n0 ch prev rest ι' σ h (listed.setIfInBounds i true) a' w' → a'.defers = a.defers → next a' w') :
    wpOpIn (rf r) 0 P ops Q i next a w := by
  obtain ⟨hi, hfr⟩ := D.prevf i hip
  have ho : ops[i]? = some ops[i] := Array.getElem?_eq_getElem hi
  have hf := hfo i _ ho
  obtain ⟨h1, h2, h3, h4⟩ := flatOper_op hf
  obtain ⟨hk, d, hd⟩ := free_kind hfr
  obtain ⟨d', v, e1, hlk, hp⟩ := D.pend i hip hl
  rw [hd] at e1; cases e1
  have hdN : d < N := h4 d (by rw [← h2]; exact hd)
  have hset : ∀ j, j ≠ i → (listed.setIfInBounds i true).getD j false = listed.getD j false := fun j hj => getD_set_ne false (Ne.symm hj)
  have hseti : (listed.setIfInBounds i true).getD i false = true := by
    have : i < listed.size := by rw [D.lsize]; exact hi
    simp [this]
  have hread : ∀ t, t ∈ (opAt fo i).reads → T1 ι σ a.tmps t := fun t ht => D.tr t fun j hj hlj hdj => by
    obtain ⟨hj1, hj2⟩ := D.prevf j hj
    obtain ⟨hne, hb⟩ := free_reads hj2 hdj hi ht
    rw [bef_listed hok D.closed i j hi hj1 hon hb] at hlj
    cases hlj
  -- the state that follows
  have fin : ∀ ι' u w', Le ι ι' → Ext n0 ι ι' → (∀ j ∈ prev, listed.getD j false = false → j ≠ i → ∀ d v vs nb, (opAt fo j).dst = some d → lk σ d = some v → sem (bOf v) (opAt fo j).opc vs h = some (v, nb, h) → nb.isSome = true → ι (bOf v) = none → ι' (bOf v) = none) →
      VR ι' v u → HR (flatC P) w0 ι' h w' → next (a.put ops[i].dst u) w' := fun ι' u w' hle hext hothers hvu hhr => by
    have hdo : ops[i].dst = some d := by rw [← h2]; exact hd
    refine hn ι' _ w' hext ?_ (put_defers _ _ _)
    rw [hdo]
    exact
      { lsize := by simp [D.lsize], len := D.len, size := by simp [Act.put, D.size], chn := D.chn, prevf := D.prevf, no := D.no, dir := D.dir, ndst := D.ndst, hr := hhr
        closed := fun j hj hlj e he => by
          by_cases hji : j = i
          · subst hji; exact getD_set_true (hon e he)
          · rw [hset j hji] at hlj; exact getD_set_true (D.closed j hj hlj e he)
        chain := fun j hj hfj => by
          have hji : j ≠ i := fun e => by subst e; rw [hfr] at hfj; cases hfj
          rw [hset j hji]; exact D.chain j hj hfj
        prevl := fun j hj hfj hlj => by
          by_cases hji : j = i
          · subst hji; exact hip
          · rw [hset j hji] at hlj; exact D.prevl j hj hfj hlj
        tr := fun t ht => by
          by_cases hdt : d = t
          · subst hdt
            intro x hx
            rw [hlk] at hx; cases hx
            exact ⟨u, by simp [Act.put, D.size, hdN], hvu⟩
          · have h5 : T1 ι σ a.tmps t := D.tr t fun j hj hlj => by
              by_cases hji : j = i
              · subst hji; rw [hd]; exact fun e => hdt (by cases e; rfl)
              · exact ht j hj (by rw [hset j hji]; exact hlj)
            intro x hx
            obtain ⟨v', b1, b2⟩ := h5.mono hle x hx
            exact ⟨v', by simp only [Act.put]; rw [Array.getElem?_setIfInBounds_ne hdt]; exact b1, b2⟩
        pend := fun j hj hlj => by
          have hji : j ≠ i := fun e => by subst e; rw [hseti] at hlj; cases hlj
          rw [hset j hji] at hlj
          obtain ⟨d', v', p1, p2, p3⟩ := D.pend j hj hlj
          refine ⟨d', v', p1, p2, ?_⟩
          rcases gateW_cases p3 with ⟨⟨vs, nb, q1, q2, q3⟩, hg⟩ | ⟨e, hg⟩
          · rw [hg]
            exact ⟨vs, nb, q1, q2, fun k hk => ⟨(q3 k hk).1, hothers j hj hlj hji d' v' vs nb p1 p2 q2 (by rw [hk]; rfl) (q3 k hk).2.1, (q3 k hk).2.2⟩⟩
          · rw [hg]; exact e
        dist := fun y hy j hj ly lj hne => by
          have hyi : y ≠ i := fun e => by subst e; rw [hseti] at ly; cases ly
          have hji : j ≠ i := fun e => by subst e; rw [hseti] at lj; cases lj
          rw [hset y hyi] at ly; rw [hset j hji] at lj
          exact D.dist y hy j hj ly lj hne }
  unfold wpOpIn
  rw [ho]
  simp only
  rcases gate_sound hf (fun t w e => hread t (mem_reads_g e)) hp with ⟨hw, vs, nb, q1, q2, q3⟩ | ⟨hw, rfl⟩
  · rw [if_pos hw]
    have hops := aevs_sound (fun t m => hread t (mem_reads_op m)) h3 q1
    obtain ⟨u, w', he, ι', hι, hvu, hH⟩ := semE_sound h1 hops D.hr (by rw [semE_kind hk]; exact q2) (fun hs => by obtain ⟨k, hk'⟩ := Option.isSome_iff_exists.1 hs; exact (q3 k hk').2.1)
    have hHR : HR (flatC P) w0 ι' h w' := hH h (fun c x e => (D.hr.dom c x e).1) (fun c l e _ _ => e) (fun k hk' => (q3 k hk').1)
    have hle : Le ι ι' := by
      rcases hι with rfl | ⟨hs, x, rfl⟩
      · exact Le.refl _
      · obtain ⟨k, hk'⟩ := Option.isSome_iff_exists.1 hs; exact Inj.upd_le _ (q3 k hk').2.1
    have hext : Ext n0 ι ι' := by
      rcases hι with rfl | ⟨hs, x, rfl⟩
      · exact Ext.refl _ _
      · obtain ⟨k, hk'⟩ := Option.isSome_iff_exists.1 hs
        exact fun c hc => Inj.upd_ne _ _ (by have := (q3 k hk').2.2; omega)
    have hoth : ∀ j ∈ prev, listed.getD j false = false → j ≠ i → ∀ d v vs nb, (opAt fo j).dst = some d → lk σ d = some v → sem (bOf v) (opAt fo j).opc vs h = some (v, nb, h) → nb.isSome = true → ι (bOf v) = none → ι' (bOf v) = none :=
      fun j hj hlj hji d2 v2 vs2 nb2 r1 r2 r3 r4 r5 => by
        rcases hι with rfl | ⟨hs, x, rfl⟩
        · exact r5
        · have kj := kind_alloc (free_kind (D.prevf j hj).2).1 r3 r4
          have ki := kind_alloc hk q2 hs
          have hne := D.dist i hip j hj hl hlj (Ne.symm hji) ki kj d v d2 v2 hd hlk r1 r2 (sem_alloc_ne ki q2) (sem_alloc_ne kj r3)
          rw [Inj.upd_ne _ _ (Ne.symm hne)]
          exact r5
    have hgo := fin ι' u w' hle hext hoth hvu hHR
    refine ⟨fun _ _ => trivial, ?_⟩
    rw [Oper.semAt_eq _ _ _ (flat_not_defer h1)]
    rcases he with he | ⟨he, rfl⟩
    · rw [he, Oper.uponIn_value]; exact hgo
    · rw [he, Oper.uponIn_skip]; exact hgo
  · rw [if_neg (by simp [hw])]
    exact ⟨fun _ _ => trivial, fin ι undef w (Le.refl _) (Ext.refl _ _) (fun _ _ _ _ _ _ _ _ _ _ _ _ e => e) (undef_VR ι) D.hr⟩

end
end Go.Pw
