/- The abstract logic in which the functions of the program are walked, part 14. No condition. -/
import Derived.Test.YtkpafafiaicfpaaPwL
set_option linter.unusedSimpArgs false
set_option linter.unusedVariables false
set_option linter.unusedSectionVars false
/-! The abstract logic, part M: regions whose order is drawn, to their end. -/
namespace Go.Pw
open Go.RowKit (Below)

section
variable {P : Program} {w0 : Fr} {N : Nat} {ops : Array Oper} {fo : List AOper} {bf : List Nat} {n0 : Nat} {K : Tm → AH → Prop} {r : Option Nat}

theorem agains_split {its : List It} {σ : Tm} {h : AH} : ∀ {l : List Nat}, regW P (l.map (fun i => .again (opAt fo i)) ++ its) σ h K → (∀ i ∈ l, againW σ h (opAt fo i)) ∧ regW P its σ h K
  | [], hW => ⟨fun _ m => by simp at m, hW⟩
  | i :: l, hW => by
    simp only [List.map_cons, List.cons_append, regW] at hW
    obtain ⟨h1, h2⟩ := agains_split hW.2
    exact ⟨fun j hj => by rcases List.mem_cons.1 hj with rfl | hj; exact hW.1; exact h1 j hj, h2⟩

theorem chain_sound (hok : okBef ops bf = true) (hfo : ∀ i o, ops[i]? = some o → flatOper P N ops o = some (opAt fo i)) {e : Nat} {ch prev rest : List Nat} {ι : Inj} {σ : Tm} {h : AH} {listed : Array Bool} {a : Act} {w : World} {its : List It}
    (D : DI P w0 N ops fo bf n0 (e :: ch) prev (e :: rest) ι σ h listed a w) (hnd : e ∉ ch) (hon : ∀ x ∈ onOf ops e, listed.getD x false = true)
    (hW : regW P (.ev (opAt fo e) :: ((againOf fo bf e prev).map (fun i => .again (opAt fo i)) ++ its)) σ h K)
    {Q : Exit → Act → World → Prop} {next : Act → World → Prop}
    (hn : ∀ ι' σ' h' a' w', Ext n0 ι ι' → h.length ≤ h'.length → regW P its σ' h' K → DI P w0 N ops fo bf n0 ch prev rest ι' σ' h' (listed.setIfInBounds e true) a' w' → a'.defers = a.defers → next a' w') :
    wpOpIn (rf r) 0 P ops Q e next a w := by
  obtain ⟨he, hfe⟩ := D.chn e (by simp)
  have ho : ops[e]? = some ops[e] := Array.getElem?_eq_getElem he
  have hf := hfo e _ ho
  obtain ⟨h1, h2, h3, h4⟩ := flatOper_op hf
  have hun : listed.getD e false = false := by
    cases hl : listed.getD e false with
    | false => rfl
    | true => exact absurd ((D.chain e he hfe).1 hl (by simp)) (by simp)
  have hset : ∀ j, j ≠ e → (listed.setIfInBounds e true).getD j false = listed.getD j false := fun j hj => getD_set_ne false (Ne.symm hj)
  have hsete : (listed.setIfInBounds e true).getD e false = true := by
    have : e < listed.size := by rw [D.lsize]; exact he
    simp [this]
  have hpe : ∀ j ∈ prev, j ≠ e := fun j hj hje => by subst hje; rw [(D.prevf j hj).2] at hfe; cases hfe
  have hread : ∀ t, t ∈ (opAt fo e).reads → T1 ι σ a.tmps t := fun t ht => D.tr t fun j hj hlj hdj => by
    obtain ⟨hj1, hj2⟩ := D.prevf j hj
    obtain ⟨hne, hb⟩ := free_reads hj2 hdj he ht
    rw [bef_listed hok D.closed e j he hj1 hon hb] at hlj
    cases hlj
  have hdst : ∀ y ∈ prev, ∀ d, (opAt fo e).dst = some d → (opAt fo y).dst ≠ some d := fun y hy d hd => by
    have := D.dir y hy e (by simp)
    simp only [inOrd, hd, Bool.and_eq_true, bne_iff_ne] at this
    exact this.1.1
  have hnr : ∀ y ∈ prev, listed.getD y false = false → ∀ d, (opAt fo e).dst = some d → d ∉ (opAt fo y).reads := fun y hy hl d hd hm => by
    have := D.dir y hy e (by simp)
    simp only [inOrd, hd, hfe, Bool.and_eq_true, Bool.not_false, Bool.true_and, Bool.or_eq_true, Bool.not_eq_true', List.contains_eq_mem, decide_eq_false_iff_not] at this
    rcases this.1.2 with h5 | h5
    · exact h5 hm
    · rw [bef_listed hok D.closed e y he (D.prevf y hy).1 hon h5] at hl
      cases hl
  have hsr : ∀ (v : Value) y, y ∈ prev → listed.getD y false = false → ∀ t, t ∈ (opAt fo y).reads → lk (putσ σ (opAt fo e).dst v) t = lk σ t := fun v y hy hl t ht => lk_put_ne fun ed => hnr y hy hl t ed ht
  have hsd : ∀ (v : Value) y, y ∈ prev → ∀ d, (opAt fo y).dst = some d → lk (putσ σ (opAt fo e).dst v) d = lk σ d := fun v y hy d hd => lk_put_ne fun ed => hdst y hy d ed hd
  -- the state that follows
  have fin : ∀ ι' u w' v h', Ext n0 ι ι' → Le ι ι' → h.length ≤ h'.length → VR ι' v u → HR (flatC P) w0 ι' h' w' →
      (∀ j ∈ prev, listed.getD j false = false → Pd fo n0 (putσ σ (opAt fo e).dst v) h' ι' j) → regW P its (putσ σ (opAt fo e).dst v) h' K → next (a.put ops[e].dst u) w' := fun ι' u w' v h' hext hle hlen hvu hhr hpd hW' => by
    refine hn ι' _ h' _ w' hext hlen hW' ?_ (put_defers _ _ _)
    rw [← h2]
    exact
      { lsize := by simp [D.lsize], len := Nat.le_trans D.len hlen, prevf := D.prevf, ndst := D.ndst, hr := hhr
        size := by cases (opAt fo e).dst <;> simp [Act.put, D.size]
        chn := fun i hi => D.chn i (by simp [hi])
        no := fun i hi x hx => D.no i hi x (by simp [hx])
        dir := fun y hy i hi => D.dir y hy i (by simp [hi])
        closed := fun j hj hlj x hx => by
          by_cases hji : j = e
          · subst hji; exact getD_set_true (hon x hx)
          · rw [hset j hji] at hlj; exact getD_set_true (D.closed j hj hlj x hx)
        chain := fun j hj hfj => by
          by_cases hji : j = e
          · subst hji; rw [hsete]; simp [hnd]
          · rw [hset j hji, D.chain j hj hfj]; simp [hji]
        prevl := fun j hj hfj hlj => by
          have hji : j ≠ e := fun x => by subst x; rw [hfe] at hfj; cases hfj
          rw [hset j hji] at hlj; exact D.prevl j hj hfj hlj
        tr := fun t ht => by
          have h5 : T1 ι σ a.tmps t := D.tr t fun j hj hlj => ht j hj (by rw [hset j (hpe j hj)]; exact hlj)
          cases hd : (opAt fo e).dst with
          | none => simp only [putσ, Act.put]; exact h5.mono hle
          | some d =>
            have hdN : d < a.tmps.size := by rw [D.size]; exact h4 d (by rw [← h2]; exact hd)
            simp only [putσ, Act.put]
            by_cases hdt : d = t
            · subst hdt; exact T1.put hdN hvu
            · exact T1.put_ne hdt (h5.mono hle)
        pend := fun j hj hlj => hpd j hj (by rw [hset j (hpe j hj)] at hlj; exact hlj)
        dist := fun y hy j hj ly lj hne k1 k2 d v1 d' v2 e1 f1 e2 f2 => by
          rw [hset y (hpe y hy)] at ly; rw [hset j (hpe j hj)] at lj
          rw [hsd v y hy d e1] at f1
          rw [hsd v j hj d' e2] at f2
          exact D.dist y hy j hj ly lj hne k1 k2 d v1 d' v2 e1 f1 e2 f2 }
  simp only [regW] at hW
  unfold wpOpIn
  rw [ho]
  simp only
  rcases gate_sound hf (fun t w e => hread t (mem_reads_g e)) hW with ⟨hw, hW⟩ | ⟨hw, hW⟩
  · rw [if_pos hw]
    split at hW
    · rename_i vs hvs
      have hops := aevs_sound (fun t m => hread t (mem_reads_op m)) h3 hvs
      refine op_sound h1 hops D.hr hW fun u w' v h' ι' hk k1 k2 k3 k4 => ?_
      obtain ⟨hag, hW'⟩ := agains_split hk
      have hle : Le ι ι' := k2.le D.hr.Dom
      refine fin ι' u w' v h' (k2.mono D.len) hle k1 k3 k4 (fun j hj hlj => ?_) hW'
      obtain ⟨hj1, hj2⟩ := D.prevf j hj
      obtain ⟨hkj, _⟩ := free_kind hj2
      obtain ⟨d', v', p1, p2, p3⟩ := D.pend j hj hlj
      have hsr' := hsr v j hj hlj
      refine ⟨d', v', p1, (hsd v j hj d' p1).trans p2, ?_⟩
      rw [gateW_congr (fun t w e => hsr' t (mem_reads_g e)), aevs_congr (fun t m => hsr' t (mem_reads_op m))]
      rcases gateW_cases p3 with ⟨⟨vs', nb, q1, q2, q3⟩, hg⟩ | ⟨e', hg⟩
      · rw [hg]
        by_cases hk0 : (opAt fo j).opc.kind = 0
        · obtain ⟨rfl, _, hp⟩ := sem_pure hk0 q2
          exact ⟨vs', none, q1, hp _ _, fun k e => by cases e⟩
        · have hmem : j ∈ againOf fo bf e prev := by
            unfold againOf
            rw [List.mem_filter]
            refine ⟨hj, ?_⟩
            simp only [bne_iff_ne, ne_eq, Bool.and_eq_true, Bool.not_eq_true']
            refine ⟨by simpa using hk0, ?_⟩
            cases hb : bef bf e j with
            | false => rfl
            | true => rw [bef_listed hok D.closed e j he hj1 hon hb] at hlj; cases hlj
          have hag := hag j hmem
          unfold againW at hag
          rw [gateW_congr (fun t w e => hsr' t (mem_reads_g e)), hg, aevs_congr (fun t m => hsr' t (mem_reads_op m)), q1, p1] at hag
          simp only [Option.bind_some, hsd v j hj d' p1, p2] at hag
          split at hag
          · rename_i v2 nb2 h2' heq
            obtain ⟨rfl, rfl, hnb⟩ := hag
            rw [semE_kind hkj] at heq
            refine ⟨vs', nb2, q1, heq, fun k hk' => ?_⟩
            subst hk'
            have k2' := kind_alloc hkj heq rfl
            obtain ⟨k', hk'', _⟩ := sem_alloc k2' q2
            obtain ⟨r1, r2, r3⟩ := q3 k' hk''
            refine ⟨hnb, ?_, r3⟩
            rw [k2 _ (List.getElem?_eq_some_iff.1 r1).1]
            exact r2
          · exact hag.elim
      · rw [hg]; exact e'
    · exact hW.elim
  · rw [if_neg (by simp [hw])]
    refine ⟨fun _ _ => trivial, ?_⟩
    obtain ⟨hag, hW'⟩ := agains_split hW
    exact fin ι undef w undef h (Ext.refl _ _) (Le.refl _) (Nat.le_refl _) (undef_VR ι) D.hr (fun j hj hlj => (D.pend j hj hlj).congr (hsr undef j hj hlj) (hsd undef j hj)) hW'

theorem onOf_ready {listed : Array Bool} {i : Nat} (hi : i ∈ Region.ready .any ops listed) : i < ops.size ∧ listed.getD i true = false ∧ ∀ e ∈ onOf ops i, listed.getD e false = true := by
  obtain ⟨h1, o, h2, h3⟩ := mem_ready.1 hi
  refine ⟨(Array.getElem?_eq_some_iff.1 h2).1, h1, fun e he => ?_⟩
  unfold onOf at he
  rw [h2] at he
  simp only [List.mem_map, List.mem_filter, Array.mem_toList_iff] at he
  obtain ⟨x, ⟨hx, hb⟩, rfl⟩ := he
  exact h3 x hx hb

theorem ready_nil (hok : okBef ops bf = true) {listed : Array Bool} (hs : listed.size = ops.size) (hr : Region.ready .any ops listed = []) : ∀ i, i < ops.size → listed.getD i false = true := by
  intro i
  induction i using Nat.strongRecOn with
  | _ i ih =>
    intro hi
    cases hl : listed.getD i false with
    | true => rfl
    | false =>
      have ho : ops[i]? = some ops[i] := Array.getElem?_eq_getElem hi
      have : i ∈ Region.ready .any ops listed := by
        refine mem_ready.2 ⟨?_, _, ho, fun e he hb => ?_⟩
        · have hlt : i < listed.size := by omega
          simp [hlt] at hl ⊢; exact hl
        · have hon : e.on ∈ onOf ops i := by
            unfold onOf
            rw [ho]
            simp only [List.mem_map, List.mem_filter, Array.mem_toList_iff]
            exact ⟨e, ⟨he, hb⟩, rfl⟩
          unfold okBef at hok
          have h1 := List.all_eq_true.1 hok i (List.mem_range.2 hi)
          simp only [Bool.and_eq_true] at h1
          have hlt : e.on < i := by simpa using List.all_eq_true.1 h1.1 _ hon
          exact ih e.on hlt (by omega)
      rw [hr] at this
      simp at this

theorem mem_newOf {ch prev : List Nat} {i : Nat} : i ∈ newOf ops fo bf ch prev ↔ i < ops.size ∧ freeB ops fo bf i = true ∧ i ∉ prev ∧ ∀ e ∈ ch, bef bf i e = false := by
  unfold newOf
  simp [List.mem_filter, List.mem_range, and_assoc]

theorem planOf_map (e : Nat) (ch prev : List Nat) : (planOf ops fo bf (e :: ch) prev).map (itOf fo) =
    .ev (opAt fo e) :: ((againOf fo bf e prev).map (fun i => .again (opAt fo i)) ++ ((newOf ops fo bf ch prev).map (fun i => .ev (opAt fo i)) ++ (planOf ops fo bf ch (prev ++ newOf ops fo bf ch prev)).map (itOf fo))) := by
  simp [planOf, itOf, List.map_map, Function.comp_def]

theorem draw_end {ι0 : Inj} {ds : List Deferred} {Q : Exit → Act → World → Prop}
    (hK : ∀ σ h ι a w, K σ h → n0 ≤ h.length → Ext n0 ι0 ι → Rel P w0 N ι σ h a w → a.defers = ds → Q .normal a w)
    {ch prev rest : List Nat} {ι : Inj} {σ : Tm} {h : AH} {listed : Array Bool} {a : Act} {w : World} (D : DI P w0 N ops fo bf n0 ch prev rest ι σ h listed a w)
    (hext : Ext n0 ι0 ι) (hds : a.defers = ds) (hW : regW P ((planOf ops fo bf ch prev).map (itOf fo)) σ h K) (hall : ∀ i, i < ops.size → listed.getD i false = true) : Q .normal a w := by
  cases ch with
  | cons e ch =>
    obtain ⟨he, hfe⟩ := D.chn e (by simp)
    exact absurd ((D.chain e he hfe).1 (hall e he)) (by simp)
  | nil =>
    simp only [planOf, List.map_nil, regW] at hW
    refine hK σ h ι a w hW D.len hext ⟨D.size, fun t => D.tr t fun i hi hl => ?_, D.hr⟩ hds
    rw [hall i (D.prevf i hi).1] at hl; cases hl

theorem draw_main (hok : okBef ops bf = true) (hfo : ∀ i o, ops[i]? = some o → flatOper P N ops o = some (opAt fo i)) {ι0 : Inj} {ds : List Deferred} {Q : Exit → Act → World → Prop}
    (hK : ∀ σ h ι a w, K σ h → n0 ≤ h.length → Ext n0 ι0 ι → Rel P w0 N ι σ h a w → a.defers = ds → Q .normal a w) :
    ∀ (fuel : Nat) (ch prev : List Nat) (ι : Inj) (σ : Tm) (h : AH) (listed : Array Bool) (a : Act) (w : World),
      DI P w0 N ops fo bf n0 ch prev (evsOf ops fo bf ch prev) ι σ h listed a w → pw (inOrd ops fo bf) (evsOf ops fo bf ch prev) = true → pw (fun j i => bef bf i j) ch = true → ch.Nodup →
      (∀ i, i < ops.size → freeB ops fo bf i = true → i ∉ prev → ∃ e ∈ ch, bef bf i e = true) →
      Ext n0 ι0 ι → a.defers = ds → regW P ((planOf ops fo bf ch prev).map (itOf fo)) σ h K → listed.toList.count false ≤ fuel → wpAnyIn (rf r) 0 P .any ops Q fuel listed a w := by
  intro fuel
  induction fuel with
  | zero =>
    intro ch prev ι σ h listed a w D hpw hpc hnd hmax hext hds hW hc
    have hall : ∀ i, i < ops.size → listed.getD i false = true := fun i hi => by
      have h0 : listed.toList.count false = 0 := by omega
      rw [List.count_eq_zero] at h0
      have hlt : i < listed.size := by rw [D.lsize]; exact hi
      cases hl : listed.getD i false with
      | true => rfl
      | false =>
        refine absurd ?_ h0
        have : listed[i] = false := by simpa [hlt] using hl
        rw [← this]; simp
    have hnil : Region.ready .any ops listed = [] := by
      cases hr : Region.ready .any ops listed with
      | nil => rfl
      | cons x xs =>
        obtain ⟨p1, p2, _⟩ := onOf_ready (ops := ops) (listed := listed) (i := x) (by rw [hr]; simp)
        have := hall x p1
        have hlt : x < listed.size := by rw [D.lsize]; exact p1
        simp [hlt] at this p2
        rw [this] at p2; cases p2
    exact ⟨hnil, draw_end hK D hext hds hW hall⟩
  | succ fuel ih =>
    intro ch prev ι σ h listed a w D hpw hpc hnd hmax hext hds hW hc
    refine ⟨fun hnil => draw_end hK D hext hds hW (ready_nil hok D.lsize hnil), fun i hi => ?_⟩
    obtain ⟨p1, p2, p3⟩ := onOf_ready hi
    have hlt : i < listed.size := by rw [D.lsize]; exact p1
    have hl : listed.getD i false = false := by simpa [hlt] using p2
    have hcnt : (listed.setIfInBounds i true).toList.count false ≤ fuel := by
      have := unl_set hlt hl
      omega
    cases hfr : freeB ops fo bf i with
    | true =>
      have hip : i ∈ prev := by
        refine Classical.byContradiction fun hn => ?_
        obtain ⟨e, he, hb⟩ := hmax i p1 hfr hn
        obtain ⟨he1, he2⟩ := D.chn e he
        exact (D.chain e he1 he2).1 (bef_listed hok D.closed i e p1 he1 p3 hb) he
      exact take_sound hok hfo D hip hl p3 fun ι' a' w' hx D' hd' => ih ch prev ι' σ h _ a' w' D' hpw hpc hnd hmax (hext.trans hx (Nat.le_refl _)) (hd'.trans hds) hW hcnt
    | false =>
      have hich : i ∈ ch := Classical.byContradiction fun hn => by
        rw [(D.chain i p1 hfr).2 hn] at hl; cases hl
      cases ch with
      | nil => simp at hich
      | cons e ch =>
        simp only [pw, Bool.and_eq_true] at hpc
        have hie : i = e := by
          rcases List.mem_cons.1 hich with rfl | hic
          · rfl
          · have hb := List.all_eq_true.1 hpc.1 i hic
            obtain ⟨he1, he2⟩ := D.chn e (by simp)
            exact absurd (bef_listed hok D.closed i e p1 he1 p3 hb) (fun hh => (D.chain e he1 he2).1 hh (by simp))
        subst hie
        rw [planOf_map] at hW
        obtain ⟨hn1, hn2⟩ := List.nodup_cons.1 hnd
        have hev : evsOf ops fo bf (i :: ch) prev = i :: (newOf ops fo bf ch prev ++ evsOf ops fo bf ch (prev ++ newOf ops fo bf ch prev)) := rfl
        rw [hev] at D hpw
        simp only [pw, Bool.and_eq_true] at hpw
        obtain ⟨q1, q2, q3⟩ := pw_append hpw.2
        refine chain_sound hok hfo D hn1 p3 hW fun ι' σ' h' a' w' hx hlen hW' D' hd' => ?_
        obtain ⟨σ2, h2, hl2, hW2, D2⟩ := news_sound ch (newOf ops fo bf ch prev) _ prev ι' σ' h' _ a' w' D' q1 (fun j hj => by
          obtain ⟨b1, b2, b3, b4⟩ := mem_newOf.1 hj
          refine ⟨b1, b2, ?_, b3, b4⟩
          cases hlj : (listed.setIfInBounds i true).getD j false with
          | false => rfl
          | true => exact absurd (D'.prevl j b1 b2 hlj) b3) (List.Nodup.sublist List.filter_sublist List.nodup_range) q3 hW'
        refine ih ch (prev ++ newOf ops fo bf ch prev) ι' σ2 h2 _ a' w' D2 q2 hpc.2 hn2 (fun j hj hfj hnj => ?_) (hext.trans hx (Nat.le_refl _)) (hd'.trans hds) hW2 hcnt
        refine Classical.byContradiction fun hne => hnj (List.mem_append_right _ (mem_newOf.2 ⟨hj, hfj, fun h => hnj (List.mem_append_left _ h), fun e he => ?_⟩))
        cases hb : bef bf j e with
        | false => rfl
        | true => exact absurd ⟨e, he, hb⟩ hne

/-- A region whose order is drawn. -/
theorem draw_sound {id : Nat} (hm : P.follows .mixedOrders = true) (hok : okDraw ops fo bf = true) (hfo : ∀ i o, ops[i]? = some o → flatOper P N ops o = some (opAt fo i)) {ι : Inj} {σ : Tm} {h : AH} {a : Act} {w : World}
    {ds : List Deferred} {Q : Exit → Act → World → Prop} (hrel : Rel P w0 N ι σ h a w) (hds : a.defers = ds)
    (hK : ∀ σ' h' ι' a w, K σ' h' → h.length ≤ h'.length → Ext h.length ι ι' → Rel P w0 N ι' σ' h' a w → a.defers = ds → Q .normal a w)
    (hW : regW P (((newOf ops fo bf (chainOf ops fo bf) []).map (true, ·) ++ planOf ops fo bf (chainOf ops fo bf) (newOf ops fo bf (chainOf ops fo bf) [])).map (itOf fo)) σ h K) :
    (Code.region id ops true).wpIn (rf r) 0 P Q a w := by
  unfold okDraw at hok
  simp only [Bool.and_eq_true] at hok
  obtain ⟨⟨hb, hc⟩, hp⟩ := hok
  obtain ⟨q1, q2, q3⟩ := pw_append hp
  refine wpIn_region_any hm ?_
  have hmap : ((newOf ops fo bf (chainOf ops fo bf) []).map (true, ·) ++ planOf ops fo bf (chainOf ops fo bf) (newOf ops fo bf (chainOf ops fo bf) [])).map (itOf fo) =
      (newOf ops fo bf (chainOf ops fo bf) []).map (fun i => It.ev (opAt fo i)) ++ (planOf ops fo bf (chainOf ops fo bf) (newOf ops fo bf (chainOf ops fo bf) [])).map (itOf fo) := by
    simp [itOf, List.map_map, Function.comp_def]
  rw [hmap] at hW
  have hfalse : ∀ i, (Array.replicate ops.size false).getD i false = false := fun i => by
    rcases Nat.lt_or_ge i ops.size with h | h <;> simp [h]
  have hmc : ∀ i, i ∈ chainOf ops fo bf ↔ i < ops.size ∧ freeB ops fo bf i = false := fun i => by
    unfold chainOf
    simp [List.mem_filter, List.mem_range]
  have D0 : DI P w0 N ops fo bf h.length (chainOf ops fo bf) [] (newOf ops fo bf (chainOf ops fo bf) [] ++ evsOf ops fo bf (chainOf ops fo bf) (newOf ops fo bf (chainOf ops fo bf) [])) ι σ h (Array.replicate ops.size false) a { w with drawn := w.drawn + 1 } :=
    { lsize := by simp, len := Nat.le_refl _, size := hrel.size
      closed := fun i _ hl => by rw [hfalse] at hl; cases hl
      chain := fun i hi hf => by rw [hfalse, hmc]; simp [hi, hf]
      chn := fun i hi => (hmc i).1 hi
      prevl := fun i _ _ hl => by rw [hfalse] at hl; cases hl
      prevf := fun i hi => by simp at hi
      no := fun i hi => by simp at hi
      dir := fun i hi => by simp at hi
      ndst := fun i hi => by simp at hi
      tr := fun t _ => hrel.tr.t1 t
      hr := hrel.hr.dr (w.drawn + 1)
      pend := fun i hi => by simp at hi
      dist := fun i hi => by simp at hi }
  obtain ⟨σ2, h2, hl2, hW2, D2⟩ := news_sound (chainOf ops fo bf) (newOf ops fo bf (chainOf ops fo bf) []) _ [] ι σ h _ a _ D0 q1 (fun j hj => by
    obtain ⟨b1, b2, b3, b4⟩ := mem_newOf.1 hj
    exact ⟨b1, b2, hfalse j, b3, b4⟩) (List.Nodup.sublist List.filter_sublist List.nodup_range) q3 hW
  rw [List.nil_append] at D2
  refine draw_main hb hfo (ι0 := ι) (ds := ds) hK ops.size _ _ ι σ2 h2 _ a _ D2 q2 hc (List.Nodup.sublist List.filter_sublist List.nodup_range) (fun j hj hfj hnj => ?_) (Ext.refl _ _) hds hW2 ?_
  · refine Classical.byContradiction fun hne => hnj (mem_newOf.2 ⟨hj, hfj, by simp, fun e he => ?_⟩)
    cases hb : bef bf j e with
    | false => rfl
    | true => exact absurd ⟨e, he, hb⟩ hne
  · simp

/-- **A region.** -/
theorem reg_sound {id : Nat} {draw : Bool} {its : List It} (hm : P.follows .mixedOrders = true) (hf : flatReg P N ops draw = some (.reg its)) {ι : Inj} {σ : Tm} {h : AH} {a : Act} {w : World}
    {ds : List Deferred} {Q : Exit → Act → World → Prop} (hrel : Rel P w0 N ι σ h a w) (hds : a.defers = ds)
    (hK : ∀ σ' h' ι' a w, K σ' h' → h.length ≤ h'.length → Ext h.length ι ι' → Rel P w0 N ι' σ' h' a w → a.defers = ds → Q .normal a w)
    (hW : regW P its σ h K) : (Code.region id ops draw).wpIn (rf r) 0 P Q a w := by
  unfold flatReg at hf
  simp only [Option.bind_eq_some_iff] at hf
  obtain ⟨fo, h1, h2⟩ := hf
  have hfo : ∀ i o, ops[i]? = some o → flatOper P N ops o = some (opAt fo i) := fun i o ho => by
    obtain ⟨y, a1, a2⟩ := allSome_get h1 i o (by simpa using ho)
    unfold opAt
    rw [List.getD_eq_getElem?_getD, a1]
    exact a2
  have hlen : fo.length = ops.size := by simpa using allSome_length h1
  split at h2
  · rename_i hd
    cases h2
    subst hd
    refine wpIn_region ?_
    have hmap : fo.map It.ev = (List.range ops.size).map fun i => It.ev (opAt fo i) := by
      apply List.ext_getElem?
      intro i
      simp only [List.getElem?_map, List.getElem?_range, ← hlen]
      by_cases hi : i < fo.length
      · simp [hi, opAt]
      · simp [hi]
    rw [hmap] at hW
    exact text_sound hfo hK _ σ h ι a w (fun i hi => by simpa using hi) (Nat.le_refl _) (Ext.refl _ _) hrel hds hW
  · split at h2 <;> cases h2
    rename_i hd hok
    have : draw = true := by simpa using hd
    subst this
    exact draw_sound hm hok hfo hrel hds hK hW

end
end Go.Pw
