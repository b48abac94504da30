/- The abstract logic in which the functions of the program are walked, part 23. No condition. -/
import Derived.Test.YtkpafafiaicfpaaPwV
set_option linter.unusedSimpArgs false
set_option linter.unusedVariables false
set_option linter.unusedSectionVars false
/-! The abstract logic, part W: rules by which heaps and numbers are reckoned. -/
namespace Go.Pw

section
variable {h l : AH} {i : Nat} {x : Blk}
theorem get_app0 : (h ++ l)[h.length]? = l[0]? := by rw [List.getElem?_append_right (Nat.le_refl _)]; simp
theorem get_app : (h ++ l)[h.length + i]? = l[i]? := by rw [List.getElem?_append_right (by omega)]; simp
theorem set_app0 : (h ++ l).set h.length x = h ++ l.set 0 x := by rw [List.set_append_right _ _ (Nat.le_refl _)]; simp
theorem set_app : (h ++ l).set (h.length + i) x = h ++ l.set i x := by rw [List.set_append_right _ _ (by omega)]; simp
theorem rdc_app0 : rdc (h ++ l) h.length = rdc l 0 := by simp only [rdc, get_app0]
theorem rdc_app : rdc (h ++ l) (h.length + i) = rdc l i := by simp only [rdc, get_app]
theorem len_app : (h ++ l).length = h.length + l.length := List.length_append
theorem app_app {m : AH} : (h ++ l) ++ m = h ++ (l ++ m) := List.append_assoc _ _ _
theorem rdc_get {b : Nat} : rdc h b = match h[b]? with
  | some (.cells _ cs) => some cs
  | some (.row _ cs) => some cs
  | _ => none := rfl

theorem adr_add {b o k : Nat} : (⟨b, o, none⟩ : Addr).add k = ⟨b, o + k, none⟩ := by
  unfold Addr.add
  split
  · rename_i e; subst e; rfl
  · rfl
theorem rd1_mk {b o : Nat} : rd1 h ⟨b, o, none⟩ = (rdc h b).bind fun cs => cs[o]? := by simp [rd1]
theorem rdN_mk {b o n : Nat} : rdN h ⟨b, o, none⟩ n = (rdc h b).bind fun cs => if o + n ≤ cs.length then some ((cs.drop o).take n) else none := by simp [rdN]
theorem rdc_cells {rw : Bool} {cs : List Value} : rdc (.cells rw cs :: l) 0 = some cs := (rfl)
theorem rdc_row {s : Nat} {cs : List Value} : rdc (.row s cs :: l) 0 = some cs := (rfl)
theorem rdc_cons : rdc (x :: l) (i + 1) = rdc l i := by simp [rdc]
theorem rdc_1 : rdc (x :: l) 1 = rdc l 0 := (rfl)
theorem rdc_2 : rdc (x :: l) 2 = rdc l 1 := (rfl)
theorem rdc_3 : rdc (x :: l) 3 = rdc l 2 := (rfl)
theorem rdc_4 : rdc (x :: l) 4 = rdc l 3 := (rfl)
theorem rdc_5 : rdc (x :: l) 5 = rdc l 4 := (rfl)
theorem rdc_6 : rdc (x :: l) 6 = rdc l 5 := (rfl)
theorem rdc_7 : rdc (x :: l) 7 = rdc l 6 := (rfl)
theorem rdc_8 : rdc (x :: l) 8 = rdc l 7 := (rfl)
theorem cel_agg {cs : List Value} : cel (.agg cs.toArray) = cs := (rfl)
theorem cel_int {k : IntKind} {n : Int} : cel (.int k n) = [.int k n] := (rfl)
theorem cel_bool {b : Bool} : cel (.bool b) = [.bool b] := (rfl)
theorem cel_slice {a : Option Addr} {n c : Nat} : cel (.slice a n c) = [.slice a n c] := (rfl)
theorem cel_func {f : Fn} {a b : Array Value} : cel (.func f a b) = [.func f a b] := (rfl)
theorem cel_ptr {a : Option Addr} : cel (.pointer a) = [.pointer a] := (rfl)
theorem cel_map {r : Option Nat} : cel (.map r) = [.map r] := (rfl)
theorem cel_iface {t : TypeId} {v : Value} : cel (.iface t v) = [.iface t v] := (rfl)
theorem cel_nilIface : cel .nilIface = [.nilIface] := (rfl)

/-- Numbers of 64 bits that are in their bounds. -/
theorem wrap_ok {n : Int} (h1 : -9223372036854775808 ≤ n) (h2 : n ≤ 9223372036854775807) : IntKind.i64.wrap n = n := by
  exact IntWalk.i64_in n ⟨h1, by omega⟩
end

end Go.Pw
