/- The abstract logic in which the functions of the program are walked, part 26. No condition. -/
import Derived.Test.YtkpafafiaicfpaaPwY
set_option linter.unusedSimpArgs false
set_option linter.unusedVariables false
set_option linter.unusedSectionVars false
/-! The abstract logic, part Z: the rules by which single steps are reckoned. -/
namespace Go.Pw

section
variable {b c0 : Nat} {h l : AH} {x y v : Value} {zs cs vs ws : List Value} {pl : List (Nat × Nat)} {a : Addr} {k k' : IntKind} {n m : Int} {P : Program} {t t' : Bool}

def lkB (e : Bool) (v : Value) (σ : Tm) (t : Nat) : Option Value := match e with
  | true => some v
  | false => lk σ t
theorem lkB_t {σ : Tm} {i : Nat} : lkB true v σ i = some v := (rfl)
theorem lkB_f {σ : Tm} {i : Nat} : lkB false v σ i = lk σ i := (rfl)
theorem lk_at {σ : Tm} {i j : Nat} : lk ((i, v) :: σ) j = lkB (i == j) v σ j := by
  by_cases hij : i = j
  · subst hij; simp [lk, lkB]
  · have : (i == j) = false := by simp [hij]
    simp [lk, lkB, hij, this]
theorem semE_mv : semE b .mv [x] h = some (x, none, h) := (rfl)
theorem semE_pick : semE b .pick [.bool t, x, y] h = some (if t = true then x else y, none, h) := (rfl)
theorem semE_pick_t : semE b .pick [.bool true, x, y] h = some (x, none, h) := (rfl)
theorem semE_pick_f : semE b .pick [.bool false, x, y] h = some (y, none, h) := (rfl)
theorem semE_alloc : semE b (.alloc zs) [] h = some (.pointer (some ⟨b, 0, none⟩), some (.cells true zs), h) := (rfl)
theorem semE_box : semE b .box [x] h = some (.pointer (some ⟨b, 0, none⟩), some (.cells true (cel x)), h) := (rfl)
def bldA (cs : Option (List Value)) (h : AH) : Option Step := match cs with
  | some cs => some (.agg cs.toArray, none, h)
  | none => none
def bslA (b len esz : Nat) (cs : Option (List Value)) (h : AH) : Option Step := match cs with
  | some cs => some (.slice (some ⟨b, 0, none⟩) len len, some (.row esz cs), h)
  | none => none
theorem semE_build : semE b (.build zs pl) vs h = bldA (fillA zs pl vs) h := by cases e : fillA zs pl vs <;> simp [semE, sem, bldA, e]
theorem bldA_some : bldA (some cs) h = some (.agg cs.toArray, none, h) := (rfl)
theorem semE_bslice {len esz : Nat} : semE b (.bslice len esz zs pl) vs h = bslA b len esz (fillA zs pl vs) h := by cases e : fillA zs pl vs <;> simp [semE, sem, bslA, e]
theorem bslA_some {len esz : Nat} : bslA b len esz (some cs) h = some (.slice (some ⟨b, 0, none⟩) len len, some (.row esz cs), h) := (rfl)
def okO {α : Type} (t : Bool) (x : Option α) : Option α := match t with
  | true => x
  | false => none
theorem okO_t {α : Type} {x : Option α} : okO true x = x := (rfl)
theorem fillA_nil : fillA cs [] [] = some cs := (rfl)
theorem fillA_cons {o q : Nat} : fillA cs ((o, q) :: pl) (v :: vs) = okO ((cel v).length == q && decide (o + q ≤ cs.length)) (fillA (spl cs o (cel v)) pl vs) := by
  by_cases h1 : (cel v).length = q
  · by_cases h2 : o + q ≤ cs.length
    · simp [fillA, h1, h2, okO]
    · simp [fillA, h1, h2, okO]
  · have h3 : ((cel v).length == q) = false := by simp [h1]
    simp [fillA, h1, h3, okO]
theorem spl_nil {o : Nat} : spl cs o [] = cs := (rfl)
theorem spl_cons {o : Nat} : spl cs o (v :: vs) = spl (cs.set o v) (o + 1) vs := (rfl)
/-- What is read. -/
def ldA (v : Option Value) (h : AH) : Option Step := match v with
  | some v => some (v, none, h)
  | none => none
def ldN (cs : Option (List Value)) (h : AH) : Option Step := match cs with
  | some cs => some (.agg cs.toArray, none, h)
  | none => none
theorem ldA_some : ldA (some v) h = some (v, none, h) := (rfl)
theorem ldN_some : ldN (some cs) h = some (.agg cs.toArray, none, h) := (rfl)
theorem semE_load1 {o : Nat} : semE b .load1 [.pointer (some ⟨c0, o, none⟩)] h = ldA ((rdc h c0).bind fun cs => cs[o]?) h := by
  show (rd1 h ⟨c0, o, none⟩).map (fun v => (v, none, h)) = _
  rw [rd1_mk]; cases (rdc h c0).bind (fun cs => cs[o]?) <;> rfl
/-- So many cells from one on. -/
def subN (o n : Nat) (cs : List Value) : Option (List Value) := if o + n ≤ cs.length then some ((cs.drop o).take n) else none
theorem semE_loadN {o n : Nat} : semE b (.loadN n) [.pointer (some ⟨c0, o, none⟩)] h = ldN ((rdc h c0).bind (subN o n)) h := by
  show (rdN h ⟨c0, o, none⟩ n).map (fun cs => (Value.agg cs.toArray, none, h)) = _
  rw [rdN_mk]; 
  show Option.map _ ((rdc h c0).bind (subN o n)) = _
  cases (rdc h c0).bind (subN o n) <;> rfl
theorem subN_ok {o n : Nat} (h1 : o + n ≤ cs.length) : subN o n cs = some ((cs.drop o).take n) := if_pos h1
/-- What is written. -/
def wrB (h : AH) (b o : Nat) (vs : List Value) (k : Option Blk) : Option AH := match k with
  | some (.cells true cs) => if o + vs.length ≤ cs.length ∧ vs.all oneV = true then some (h.set b (.cells true (spl cs o vs))) else none
  | some (.row s cs) => if o + vs.length ≤ cs.length ∧ vs.all oneV = true then some (h.set b (.row s (spl cs o vs))) else none
  | _ => none
def stA (h' : Option AH) : Option Step := match h' with
  | some h' => some (undef, none, h')
  | none => none
theorem stA_some : stA (some h) = some (undef, none, h) := (rfl)
theorem wr_mk {o : Nat} : wr h ⟨b, o, none⟩ vs = wrB h b o vs h[b]? := by
  unfold wr wrB
  simp only
  cases e : h[b]? with
  | none => rfl
  | some k =>
    cases k with
    | cells rw cs => cases rw <;> simp
    | row s cs => simp
    | _ => rfl
theorem semE_store {n o : Nat} : semE b (.store n) [.pointer (some ⟨c0, o, none⟩), v] h = okO ((cel v).length == n) (stA (wrB h c0 o (cel v) h[c0]?)) := by
  show (if (cel v).length = n then (wr h ⟨c0, o, none⟩ (cel v)).map (fun h' => ((undef : Value), none, h')) else none) = _
  by_cases h1 : (cel v).length = n
  · have h2 : ((cel v).length == n) = true := by simp [h1]
    rw [if_pos h1, wr_mk, h2]
    cases wrB h c0 o (cel v) h[c0]? <;> rfl
  · have h2 : ((cel v).length == n) = false := by simp [h1]
    rw [if_neg h1, h2]; rfl
theorem wrB_cells {o : Nat} : wrB h b o vs (some (.cells true cs)) = okO (decide (o + vs.length ≤ cs.length) && vs.all oneV) (some (h.set b (.cells true (spl cs o vs)))) := by
  unfold wrB
  simp only
  by_cases h1 : o + vs.length ≤ cs.length
  · cases h2 : vs.all oneV <;> simp [h1, okO]
  · simp [h1, okO]
theorem wrB_row {o s : Nat} : wrB h b o vs (some (.row s cs)) = okO (decide (o + vs.length ≤ cs.length) && vs.all oneV) (some (h.set b (.row s (spl cs o vs)))) := by
  unfold wrB
  simp only
  by_cases h1 : o + vs.length ≤ cs.length
  · cases h2 : vs.all oneV <;> simp [h1, okO]
  · simp [h1, okO]
theorem dec_le {i j : Nat} (h1 : i ≤ j) : decide (i ≤ j) = true := decide_eq_true h1
theorem oneV_int : oneV (.int k n) = true := (rfl)
theorem oneV_bool : oneV (.bool t) = true := (rfl)
theorem oneV_slice {p : Option Addr} {i j : Nat} : oneV (.slice p i j) = true := (rfl)
theorem oneV_ptr {p : Option Addr} : oneV (.pointer p) = true := (rfl)
theorem oneV_map {p : Option Nat} : oneV (.map p) = true := (rfl)
theorem oneV_func {f : Fn} {p q : Array Value} : oneV (.func f p q) = true := (rfl)
theorem oneV_iface {i : TypeId} : oneV (.iface i v) = true := (rfl)
theorem oneV_nilFunc : oneV .nilFunc = true := (rfl)
theorem oneV_nilIface : oneV .nilIface = true := (rfl)
theorem cel_nilFunc : cel .nilFunc = [.nilFunc] := (rfl)
theorem semE_nilP : semE b .nilCheck [.pointer (some a)] h = some (.pointer (some a), none, h) := (rfl)
theorem semE_nilF {f : FuncId} {p q : Array Value} : semE b .nilCheck [.func (.func f) p q] h = some (.func (.func f) p q, none, h) := (rfl)
theorem semE_nilY {f : Nat} {p q : Array Value} : semE b .nilCheck [.func (.yield f) p q] h = some (.func (.yield f) p q, none, h) := (rfl)
theorem semE_bin {op : BinOp} {eq : EqK} : semE b (.bin op eq) [x, y] h = ldA (binA op eq x y) h := by
  show (binA op eq x y).map (fun v => (v, none, h)) = _
  cases binA op eq x y <;> rfl
theorem binA_add {q : EqK} : binA .add q (.int .i64 n) (.int .i64 m) = some (.int .i64 (IntKind.i64.wrap (n + m))) := (rfl)
theorem binA_sub {q : EqK} : binA .sub q (.int .i64 n) (.int .i64 m) = some (.int .i64 (IntKind.i64.wrap (n - m))) := (rfl)
theorem binA_mul {q : EqK} : binA .mul q (.int .i64 n) (.int .i64 m) = some (.int .i64 (IntKind.i64.wrap (n * m))) := (rfl)
theorem binA_quo {q : EqK} (h0 : m ≠ 0) : binA .quo q (.int .i64 n) (.int .i64 m) = some (.int .i64 (IntKind.i64.wrap (n.tdiv m))) := by
  show (if m = 0 then none else some (Value.int .i64 (IntKind.i64.wrap (n.tdiv m)))) = _
  rw [if_neg h0]
theorem binA_rem {q : EqK} (h0 : m ≠ 0) : binA .rem q (.int .i64 n) (.int .i64 m) = some (.int .i64 (n.tmod m)) := by
  show (if m = 0 then none else some (Value.int .i64 (n.tmod m))) = _
  rw [if_neg h0]
theorem binA_eql {q : EqK} : binA .eql q (.int k n) (.int k m) = some (.bool (decide (n = m))) := by
  show (if k = k then some (Value.bool (n == m)) else none) = _
  rw [if_pos rfl]; congr 2
theorem binA_neq {q : EqK} : binA .neq q (.int k n) (.int k m) = some (.bool (!decide (n = m))) := by
  show (if k = k then some (Value.bool (n != m)) else none) = _
  rw [if_pos rfl]; congr 2
theorem binA_lss {q : EqK} : binA .lss q (.int k n) (.int k m) = some (.bool (decide (n < m))) := by
  show (if k = k then some (Value.bool (decide (n < m))) else none) = _
  rw [if_pos rfl]
theorem binA_leq {q : EqK} : binA .leq q (.int k n) (.int k m) = some (.bool (decide (n ≤ m))) := by
  show (if k = k then some (Value.bool (decide (n ≤ m))) else none) = _
  rw [if_pos rfl]
theorem binA_gtr {q : EqK} : binA .gtr q (.int k n) (.int k m) = some (.bool (decide (m < n))) := by
  show (if k = k then some (Value.bool (decide (n > m))) else none) = _
  rw [if_pos rfl]
theorem binA_geq {q : EqK} : binA .geq q (.int k n) (.int k m) = some (.bool (decide (m ≤ n))) := by
  show (if k = k then some (Value.bool (decide (n ≥ m))) else none) = _
  rw [if_pos rfl]
theorem binA_beq : binA .eql .bools (.bool t) (.bool t') = some (.bool (t == t')) := (rfl)
theorem binA_bne : binA .neq .bools (.bool t) (.bool t') = some (.bool (!(t == t'))) := (rfl)
def eqR (w : Bool) (r : Option Bool) : Option Value := match r with
  | some r => some (.bool (if w = true then r else !r))
  | none => none
theorem eqR_t : eqR true (some t) = some (.bool t) := (rfl)
theorem eqR_f : eqR false (some t) = some (.bool !t) := (rfl)
theorem binA_seq {ks : List Bool} : binA .eql (.struct ks) (.agg vs.toArray) (.agg ws.toArray) = eqR true (eqCells ks vs ws) := by
  show (eqCells ks vs ws).map Value.bool = _
  cases eqCells ks vs ws <;> rfl
theorem binA_sne {ks : List Bool} : binA .neq (.struct ks) (.agg vs.toArray) (.agg ws.toArray) = eqR false (eqCells ks vs ws) := by
  show (eqCells ks vs ws).map (fun b => Value.bool !b) = _
  cases eqCells ks vs ws <;> rfl
def andO (t : Bool) (r : Option Bool) : Option Bool := match r with
  | some r => some (t && r)
  | none => none
theorem andO_some : andO t (some t') = some (t && t') := (rfl)
theorem eqCells_nil : eqCells [] [] [] = some true := (rfl)
theorem eqCells_int {ks : List Bool} : eqCells (true :: ks) (.int k n :: vs) (.int k m :: ws) = andO (decide (n = m)) (eqCells ks vs ws) := by
  have : (n == m) = decide (n = m) := rfl
  simp only [eqCells, if_true, this]
  cases eqCells ks vs ws <;> rfl
theorem eqCells_bool {ks : List Bool} : eqCells (false :: ks) (.bool t :: vs) (.bool t' :: ws) = andO (t == t') (eqCells ks vs ws) := by
  simp only [eqCells]
  cases eqCells ks vs ws <;> rfl
theorem binA_nilS {p : Option Addr} {i j i' j' : Nat} : binA .eql .nilSlice (.slice p i j) (.slice none i' j') = some (.bool p.isNone) := (rfl)
theorem binA_nilN {p : Option Addr} {i j i' j' : Nat} : binA .neq .nilSlice (.slice p i j) (.slice none i' j') = some (.bool !p.isNone) := (rfl)
theorem semE_not : semE b (.un .not) [.bool t] h = some (.bool !t, none, h) := (rfl)
theorem semE_neg : semE b (.un .neg) [.int k n] h = some (.int k (k.wrap (0 - n)), none, h) := (rfl)
theorem semE_conv : semE b (.conv k) [.int k' n] h = some (.int k (k.wrap n), none, h) := (rfl)
theorem semE_mkI {i : TypeId} : semE b (.mkI i) [x] h = some (.iface i x, none, h) := (rfl)
theorem semE_mkF {f : FuncId} {i : Nat} : semE b (.mkF (.func f) i) vs h = some (.func (.func f) (vs.take i).toArray (vs.drop i).toArray, none, h) := (rfl)
theorem semE_mkMap : semE b .mkMap [] h = some (.map (some b), some (.map []), h) := (rfl)
theorem semE_fld {o i : Nat} : semE b (.fld i) [.pointer (some ⟨c0, o, none⟩)] h = some (.pointer (some ⟨c0, o + i, none⟩), none, h) := by
  show some (Value.pointer (some (Addr.add ⟨c0, o, none⟩ i)), none, h) = _
  rw [adr_add]
theorem semE_fldV1 {i : Nat} : semE b (.fldV i none) [.agg cs.toArray] h = ldA cs[i]? h := by
  show (cs.toArray[i]?).map (fun v => (v, none, h)) = _
  simp only [List.getElem?_toArray]; cases cs[i]? <;> rfl
theorem semE_fldVN {i j : Nat} : semE b (.fldV i (some j)) [.agg cs.toArray] h = ldN (subN i j cs) h := by
  show (if i + j ≤ cs.toArray.size then some (Value.agg (cs.toArray.extract i (i + j)), none, h) else none) = _
  unfold subN
  by_cases hij : i + j ≤ cs.length
  · rw [if_pos hij, if_pos (by simpa using hij)]; simp [ldN, List.extract_eq_take_drop]
  · rw [if_neg hij, if_neg (by simpa using hij)]; rfl
theorem semE_ixS {q i j o : Nat} (h1 : 0 ≤ n) (h2 : n < (i : Int)) : semE b (.ixS q) [.slice (some ⟨c0, o, none⟩) i j, .int k n] h = some (.pointer (some ⟨c0, o + n.toNat * q, none⟩), none, h) := by
  show (if 0 ≤ n ∧ n < (i : Int) then some (Value.pointer (some (Addr.add ⟨c0, o, none⟩ (n.toNat * q))), none, h) else none) = _
  rw [if_pos ⟨h1, h2⟩, adr_add]
theorem semE_ixA {q i o : Nat} (h1 : 0 ≤ n) (h2 : n < (i : Int)) : semE b (.ixA i q) [.pointer (some ⟨c0, o, none⟩), .int k n] h = some (.pointer (some ⟨c0, o + n.toNat * q, none⟩), none, h) := by
  show (if 0 ≤ n ∧ n < (i : Int) then some (Value.pointer (some (Addr.add ⟨c0, o, none⟩ (n.toNat * q))), none, h) else none) = _
  rw [if_pos ⟨h1, h2⟩, adr_add]
theorem semE_ix1 {q i : Nat} (h1 : 0 ≤ n) (h2 : n < (i : Int)) : semE b (.ix i q false) [.agg cs.toArray, .int k n] h = ldA cs[n.toNat * q]? h := by
  show (if 0 ≤ n ∧ n < (i : Int) then (if (false : Bool) = true then _ else (cs.toArray[n.toNat * q]?).map (fun v => (v, none, h))) else none) = _
  rw [if_pos ⟨h1, h2⟩, if_neg (by simp)]
  simp only [List.getElem?_toArray]; cases cs[n.toNat * q]? <;> rfl
theorem semE_ixN {q i : Nat} (h1 : 0 ≤ n) (h2 : n < (i : Int)) : semE b (.ix i q true) [.agg cs.toArray, .int k n] h = ldN (subN (n.toNat * q) q cs) h := by
  show (if 0 ≤ n ∧ n < (i : Int) then (if (true : Bool) = true then (if n.toNat * q + q ≤ cs.toArray.size then some (Value.agg (cs.toArray.extract (n.toNat * q) (n.toNat * q + q)), none, h) else none) else _) else none) = _
  rw [if_pos ⟨h1, h2⟩, if_pos rfl]
  unfold subN
  by_cases hij : n.toNat * q + q ≤ cs.length
  · rw [if_pos hij, if_pos (by simpa using hij)]; simp [ldN, List.extract_eq_take_drop]
  · rw [if_neg hij, if_neg (by simpa using hij)]; rfl
theorem semE_ext {i : Nat} : semE b (.ext i) [.tuple vs.toArray] h = ldA vs[i]? h := by
  show (vs.toArray[i]?).map (fun v => (v, none, h)) = _
  simp only [List.getElem?_toArray]; cases vs[i]? <;> rfl
theorem semE_len {p : Option Addr} {i j : Nat} : semE b .len [.slice p i j] h = some (.int .i64 i, none, h) := (rfl)
theorem semE_lenA {i : Nat} : semE b (.lenA i) [x] h = some (.int .i64 i, none, h) := (rfl)
theorem semE_mm {q : Bool} : semE b (.mm q) (v :: vs) h = ldA (mmA q v vs) h := by
  show (mmA q v vs).map (fun v => (v, none, h)) = _
  cases mmA q v vs <;> rfl
theorem mmA_nil {q : Bool} : mmA q v [] = some v := (rfl)
theorem mmA_max : mmA true (.int k n) (.int k' m :: vs) = mmA true (.int k (max n m)) vs := by
  show mmA true (.int k (if m > n then m else n)) vs = _
  congr 2; split <;> omega
theorem mmA_min : mmA false (.int k n) (.int k' m :: vs) = mmA false (.int k (min n m)) vs := by
  show mmA false (.int k (if m < n then m else n)) vs = _
  congr 2; split <;> omega
theorem semE_sl_all {q i j : Nat} {p : Option Addr} (h1 : j = 0 ∨ 0 < j) : semE b (.sl q false false false) [.slice p i j] h = some (.slice (if j = 0 then p else p.map (·.add 0)) i j, none, h) := by
  show Option.bind (some (0, i, j)) (fun (x : Nat × Nat × Nat) => if j = 0 ∨ x.1 < x.2.2 ∨ (false : Bool) = true then some (Value.slice (if x.2.2 = x.1 then p else p.map (·.add (x.1 * q))) (x.2.1 - x.1) (x.2.2 - x.1), none, h) else none) = _
  simp [h1]
theorem semE_undef_mv : (undef : Value) = undef := (rfl)
end

end Go.Pw
