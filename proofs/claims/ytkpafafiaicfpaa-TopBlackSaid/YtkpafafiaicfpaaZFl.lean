/- Contracts of functions of the program, and what follows of them; each theorem states its conditions. -/
import Derived.Test.YtkpafafiaicfpaaPwX
import Derived.Test.YtkpafafiaicfpaaChecked
set_option linter.unusedSimpArgs false
set_option linter.unusedVariables false
set_option linter.unusedSectionVars false
-- Printed by Flat.lean: the functions of this seat, flattened; each by 'kernel_rfl'.
namespace Go.Proofs.Ytkpafafiaicfpaa
open Go.Pw
set_option maxRecDepth 100000

/- gosem.cut.init; parameters: 0; captured: 0 -/
def c2 : AC := .reg [
    .ev ⟨(some 0), .call 1, [], none⟩]
theorem fl2 : flatC Try.prog Try.f2.ntmps (Try.f2.body.getD .skip) = some c2 := by kernel_rfl
theorem rs2 : allSome (Try.f2.results.toList.map (flatRes Try.prog)) = some [] := by kernel_rfl
theorem nm2 : (Try.f2.name == "runtime.NumGoroutine") = false := by kernel_rfl
theorem nt2 : Try.f2.ntmps = 1 := by kernel_rfl
theorem gd2 : GoodF Try.prog 2 1 c2 [] := ⟨Try.f2, _, Try.func2, rfl, nm2, nt2, fl2, rs2⟩

/- pencilworks/pencilworkstop.TopBlack; parameters: 5; captured: 0 -/
def c3 : AC := .seq (.reg [
    .ev ⟨(some 9), .box, [.tmp 4], none⟩,
    .ev ⟨(some 10), .mv, [.const (.bool false)], none⟩])
  (.seq (.seq (.reg [
    .ev ⟨(some 35), .load1, [.tmp 9], none⟩,
    .ev ⟨(some 36), .len, [.tmp 35], none⟩,
    .ev ⟨(some 37), .bin .eql .no, [.tmp 36, .const (.int .i64 0)], none⟩,
    .ev ⟨(some 38), .mv, [.tmp 37], none⟩,
    .ev ⟨(some 39), .mv, [.tmp 0], some (38, false)⟩,
    .ev ⟨(some 40), .call 4, [.tmp 39], some (38, false)⟩,
    .ev ⟨(some 41), .un .not, [.tmp 40], some (38, false)⟩,
    .ev ⟨(some 42), .pick, [.tmp 38, .const (.bool true), .tmp 41], none⟩,
    .ev ⟨(some 43), .mv, [.tmp 42], none⟩,
    .ev ⟨(some 44), .mv, [.tmp 0], some (43, false)⟩,
    .ev ⟨(some 45), .mv, [.tmp 1], some (43, false)⟩,
    .ev ⟨(some 46), .call 5, [.tmp 44, .tmp 45], some (43, false)⟩,
    .ev ⟨(some 47), .un .not, [.tmp 46], some (43, false)⟩,
    .ev ⟨(some 48), .pick, [.tmp 43, .const (.bool true), .tmp 47], none⟩,
    .ev ⟨(some 49), .mv, [.tmp 48], none⟩,
    .ev ⟨(some 50), .mv, [.tmp 2], some (49, false)⟩,
    .ev ⟨(some 51), .call 6, [.tmp 50], some (49, false)⟩,
    .ev ⟨(some 52), .un .not, [.tmp 51], some (49, false)⟩,
    .ev ⟨(some 53), .pick, [.tmp 49, .const (.bool true), .tmp 52], none⟩])
  (.cond (.tmp 53)
   (.seq (.reg [
      .ev ⟨(some 54), .call 7, [], none⟩,
      .ev ⟨(some 10), .mv, [.tmp 54], none⟩])
    (.ret))
   (.skip)))
  (.seq (.reg [
    .ev ⟨(some 11), .mv, [.const (.int .i64 0)], none⟩])
  (.seq (.seq (.reg [
    .ev ⟨(some 12), .mv, [.const (.int .i64 0)], none⟩])
  (.block 0 (.loop (.seq (.seq (.reg [
        .ev ⟨(some 55), .mv, [.tmp 12], none⟩,
        .ev ⟨(some 56), .mv, [.tmp 1], none⟩,
        .ev ⟨(some 57), .len, [.tmp 56], none⟩,
        .ev ⟨(some 58), .bin .lss .no, [.tmp 55, .tmp 57], none⟩])
      (.cond (.tmp 58)
       (.skip)
       (.exit 0)))
      (.seq (.block 1 (.reg [
          .ev ⟨(some 61), .mv, [.tmp 11], none⟩,
          .ev ⟨(some 62), .mv, [.tmp 1], none⟩,
          .ev ⟨(some 63), .mv, [.tmp 12], none⟩,
          .ev ⟨(some 64), .ixS 3, [.tmp 62, .tmp 63], none⟩,
          .ev ⟨(some 65), .fld 1, [.tmp 64], none⟩,
          .ev ⟨(some 66), .fld 1, [.tmp 65], none⟩,
          .ev ⟨(some 67), .load1, [.tmp 66], none⟩,
          .ev ⟨(some 68), .bin .add .no, [.tmp 61, .tmp 67], none⟩,
          .ev ⟨(some 11), .mv, [.tmp 68], none⟩]))
      (.reg [
        .ev ⟨(some 59), .mv, [.tmp 12], none⟩,
        .ev ⟨(some 60), .bin .add .no, [.tmp 59, .const (.int .i64 1)], none⟩,
        .ev ⟨(some 12), .mv, [.tmp 60], none⟩]))))))
  (.seq (.reg [
    .ev ⟨(some 70), .mv, [.tmp 0], none⟩,
    .ev ⟨(some 71), .mv, [.tmp 1], none⟩,
    .ev ⟨(some 72), .call 8, [.tmp 70, .tmp 71], none⟩,
    .ev ⟨(some 69), .mv, [.tmp 72], none⟩,
    .ev ⟨(some 73), .ext 0, [.tmp 69], none⟩,
    .ev ⟨(some 74), .ext 1, [.tmp 69], none⟩,
    .ev ⟨(some 13), .alloc [(.int .i64 0), (.int .i64 0), (.int .i64 0), (.int .i64 0), (.int .i64 0), (.int .i64 0), (.int .i64 0), (.int .i64 0), (.int .i64 0), (.int .i64 0)], [], none⟩,
    .ev ⟨none, .store 10, [.tmp 13, .tmp 73], none⟩,
    .ev ⟨(some 14), .mv, [.tmp 74], none⟩])
  (.seq (.reg [
    .ev ⟨(some 76), .mv, [.tmp 0], none⟩,
    .ev ⟨(some 77), .mv, [.tmp 1], none⟩,
    .ev ⟨(some 78), .call 9, [.tmp 76, .tmp 77], none⟩,
    .ev ⟨(some 75), .mv, [.tmp 78], none⟩,
    .ev ⟨(some 79), .ext 0, [.tmp 75], none⟩,
    .ev ⟨(some 80), .ext 1, [.tmp 75], none⟩,
    .ev ⟨(some 15), .alloc [(.int .i64 0), (.int .i64 0)], [], none⟩,
    .ev ⟨none, .store 2, [.tmp 15, .tmp 79], none⟩,
    .ev ⟨(some 16), .mv, [.tmp 80], none⟩])
  (.seq (.seq (.reg [
    .ev ⟨(some 81), .mv, [.tmp 14], none⟩,
    .ev ⟨(some 82), .bin .neq .no, [.tmp 81, .const (.int .i64 0)], none⟩,
    .ev ⟨(some 83), .mv, [.tmp 82], none⟩,
    .ev ⟨(some 84), .mv, [.tmp 16], some (83, false)⟩,
    .ev ⟨(some 85), .bin .neq .no, [.tmp 84, .const (.int .i64 0)], some (83, false)⟩,
    .ev ⟨(some 86), .pick, [.tmp 83, .const (.bool true), .tmp 85], none⟩])
  (.cond (.tmp 86)
   (.seq (.reg [
      .ev ⟨(some 10), .mv, [.const (.bool false)], none⟩])
    (.ret))
   (.skip)))
  (.seq (.seq (.reg [
    .ev ⟨(some 87), .mv, [.tmp 11], none⟩,
    .ev ⟨(some 88), .bin .gtr .no, [.tmp 87, .const (.int .i64 2000)], none⟩,
    .ev ⟨(some 89), .mv, [.tmp 88], none⟩,
    .ev ⟨(some 90), .fld 2, [.tmp 13], some (89, false)⟩,
    .ev ⟨(some 91), .fld 0, [.tmp 90], some (89, false)⟩,
    .ev ⟨(some 92), .load1, [.tmp 91], some (89, false)⟩,
    .ev ⟨(some 93), .bin .lss .no, [.tmp 92, .const (.int .i64 1)], some (89, false)⟩,
    .ev ⟨(some 94), .pick, [.tmp 89, .const (.bool true), .tmp 93], none⟩])
  (.cond (.tmp 94)
   (.seq (.reg [
      .ev ⟨(some 95), .call 7, [], none⟩,
      .ev ⟨(some 10), .mv, [.tmp 95], none⟩])
    (.ret))
   (.skip)))
  (.seq (.reg [
    .ev ⟨(some 96), .fld 2, [.tmp 13], none⟩,
    .ev ⟨(some 97), .loadN 2, [.tmp 96], none⟩,
    .ev ⟨(some 98), .fld 6, [.tmp 13], none⟩,
    .ev ⟨(some 99), .loadN 2, [.tmp 98], none⟩,
    .ev ⟨(some 100), .mv, [.tmp 3], none⟩,
    .ev ⟨(some 101), .conv .i64, [.tmp 100], none⟩,
    .ev ⟨(some 102), .bin .rem .no, [.tmp 101, .const (.int .i64 201)], none⟩,
    .ev ⟨(some 103), .build [(.int .i64 0), (.int .i64 0), (.int .i64 0), (.int .i64 0), (.int .i64 0), (.slice none 0 0), (.int .i64 0), (.int .i64 0), (.int .i64 0), (.int .i64 0), (.int .i64 0)] [(0, 2), (2, 2), (4, 1)], [.tmp 97, .tmp 99, .tmp 102], none⟩,
    .ev ⟨(some 17), .alloc [(.int .i64 0), (.int .i64 0), (.int .i64 0), (.int .i64 0), (.int .i64 0), (.slice none 0 0), (.int .i64 0), (.int .i64 0), (.int .i64 0), (.int .i64 0), (.int .i64 0)], [], none⟩,
    .ev ⟨none, .store 11, [.tmp 17, .tmp 103], none⟩])
  (.seq (.reg [
    .ev ⟨(some 105), .mv, [.tmp 2], none⟩,
    .ev ⟨(some 106), .loadN 11, [.tmp 17], none⟩,
    .ev ⟨(some 107), .call 10, [.tmp 105, .tmp 106], none⟩,
    .ev ⟨(some 104), .mv, [.tmp 107], none⟩,
    .ev ⟨(some 108), .ext 0, [.tmp 104], none⟩,
    .ev ⟨(some 109), .ext 1, [.tmp 104], none⟩,
    .ev ⟨(some 18), .alloc [(.int .i64 0), (.int .i64 0)], [], none⟩,
    .ev ⟨none, .store 2, [.tmp 18, .tmp 108], none⟩,
    .ev ⟨(some 19), .mv, [.tmp 109], none⟩])
  (.seq (.reg [
    .ev ⟨(some 110), .mkF (.func 11) 0, [.tmp 9], none⟩,
    .ev ⟨(some 20), .mv, [.tmp 110], none⟩])
  (.seq (.reg [
    .ev ⟨(some 21), .mv, [.const (.int .i64 0)], none⟩,
    .ev ⟨(some 22), .mv, [.const (.int .i64 0)], none⟩])
  (.seq (.seq (.reg [
    .ev ⟨(some 23), .mv, [.const (.int .i64 0)], none⟩])
  (.block 2 (.loop (.seq (.seq (.reg [
        .ev ⟨(some 111), .mv, [.tmp 23], none⟩,
        .ev ⟨(some 112), .mv, [.tmp 1], none⟩,
        .ev ⟨(some 113), .len, [.tmp 112], none⟩,
        .ev ⟨(some 114), .bin .lss .no, [.tmp 111, .tmp 113], none⟩])
      (.cond (.tmp 114)
       (.skip)
       (.exit 2)))
      (.seq (.block 3 (.seq (.reg [
          .ev ⟨(some 117), .mv, [.tmp 1], none⟩,
          .ev ⟨(some 118), .mv, [.tmp 23], none⟩,
          .ev ⟨(some 119), .ixS 3, [.tmp 117, .tmp 118], none⟩,
          .ev ⟨(some 120), .fld 0, [.tmp 119], none⟩,
          .ev ⟨(some 121), .load1, [.tmp 120], none⟩,
          .ev ⟨(some 24), .mv, [.tmp 121], none⟩])
        (.seq (.reg [
          .ev ⟨(some 122), .mv, [.tmp 20], none⟩,
          .ev ⟨(some 123), .mv, [.tmp 0], none⟩,
          .ev ⟨(some 124), .mv, [.tmp 24], none⟩,
          .ev ⟨(some 125), .ixS 6, [.tmp 123, .tmp 124], none⟩,
          .ev ⟨(some 126), .fld 0, [.tmp 125], none⟩,
          .ev ⟨(some 127), .loadN 2, [.tmp 126], none⟩,
          .ev ⟨(some 128), .mv, [.tmp 24], none⟩,
          .ev ⟨(some 129), .bin .mul .no, [.const (.int .i64 3), .tmp 128], none⟩,
          .ev ⟨(some 131), .mv, [.tmp 20], none⟩,
          .ev ⟨(some 132), .mv, [.tmp 0], none⟩,
          .ev ⟨(some 133), .mv, [.tmp 24], none⟩,
          .ev ⟨(some 134), .ixS 6, [.tmp 132, .tmp 133], none⟩,
          .ev ⟨(some 135), .fld 2, [.tmp 134], none⟩,
          .ev ⟨(some 136), .loadN 2, [.tmp 135], none⟩,
          .ev ⟨(some 137), .mv, [.tmp 24], none⟩,
          .ev ⟨(some 138), .bin .mul .no, [.const (.int .i64 3), .tmp 137], none⟩,
          .ev ⟨(some 139), .bin .add .no, [.tmp 138, .const (.int .i64 1)], none⟩,
          .ev ⟨(some 141), .mv, [.tmp 20], none⟩,
          .ev ⟨(some 142), .mv, [.tmp 0], none⟩,
          .ev ⟨(some 143), .mv, [.tmp 24], none⟩,
          .ev ⟨(some 144), .ixS 6, [.tmp 142, .tmp 143], none⟩,
          .ev ⟨(some 145), .fld 4, [.tmp 144], none⟩,
          .ev ⟨(some 146), .loadN 2, [.tmp 145], none⟩,
          .ev ⟨(some 147), .mv, [.tmp 24], none⟩,
          .ev ⟨(some 148), .bin .mul .no, [.const (.int .i64 3), .tmp 147], none⟩,
          .ev ⟨(some 149), .bin .add .no, [.tmp 148, .const (.int .i64 2)], none⟩,
          .ev ⟨(some 151), .mv, [.tmp 20], none⟩,
          .ev ⟨(some 152), .mv, [.tmp 1], none⟩,
          .ev ⟨(some 153), .mv, [.tmp 23], none⟩,
          .ev ⟨(some 154), .ixS 3, [.tmp 152, .tmp 153], none⟩,
          .ev ⟨(some 155), .fld 1, [.tmp 154], none⟩,
          .ev ⟨(some 156), .loadN 2, [.tmp 155], none⟩,
          .ev ⟨(some 157), .mv, [.tmp 23], none⟩,
          .ev ⟨(some 158), .bin .mul .no, [.const (.int .i64 5), .tmp 157], none⟩,
          .ev ⟨(some 159), .bin .add .no, [.tmp 158, .const (.int .i64 2)], none⟩,
          .ev ⟨(some 130), .callv, [.tmp 122, .tmp 127, .tmp 129], none⟩,
          .again ⟨(some 136), .loadN 2, [.tmp 135], none⟩,
          .again ⟨(some 146), .loadN 2, [.tmp 145], none⟩,
          .again ⟨(some 156), .loadN 2, [.tmp 155], none⟩,
          .ev ⟨(some 140), .callv, [.tmp 131, .tmp 136, .tmp 139], none⟩,
          .again ⟨(some 146), .loadN 2, [.tmp 145], none⟩,
          .again ⟨(some 156), .loadN 2, [.tmp 155], none⟩,
          .ev ⟨(some 150), .callv, [.tmp 141, .tmp 146, .tmp 149], none⟩,
          .again ⟨(some 156), .loadN 2, [.tmp 155], none⟩,
          .ev ⟨(some 160), .callv, [.tmp 151, .tmp 156, .tmp 159], none⟩,
          .ev ⟨(some 25), .mv, [.tmp 130], none⟩,
          .ev ⟨(some 26), .mv, [.tmp 140], none⟩,
          .ev ⟨(some 27), .mv, [.tmp 150], none⟩,
          .ev ⟨(some 28), .mv, [.tmp 160], none⟩])
        (.seq (.reg [
          .ev ⟨(some 161), .mv, [.tmp 21], none⟩,
          .ev ⟨(some 162), .mv, [.tmp 28], none⟩,
          .ev ⟨(some 163), .mv, [.tmp 25], none⟩,
          .ev ⟨(some 164), .bin .sub .no, [.const (.int .i64 1000), .tmp 163], none⟩,
          .ev ⟨(some 165), .bin .mul .no, [.tmp 162, .tmp 164], none⟩,
          .ev ⟨(some 166), .mv, [.tmp 26], none⟩,
          .ev ⟨(some 167), .bin .mul .no, [.tmp 165, .tmp 166], none⟩,
          .ev ⟨(some 168), .bin .mul .no, [.tmp 167, .const (.int .i64 1000)], none⟩,
          .ev ⟨(some 169), .bin .add .no, [.tmp 161, .tmp 168], none⟩,
          .ev ⟨(some 21), .mv, [.tmp 169], none⟩])
        (.reg [
          .ev ⟨(some 170), .mv, [.tmp 22], none⟩,
          .ev ⟨(some 171), .mv, [.tmp 28], none⟩,
          .ev ⟨(some 172), .mv, [.tmp 25], none⟩,
          .ev ⟨(some 173), .bin .sub .no, [.const (.int .i64 1000), .tmp 172], none⟩,
          .ev ⟨(some 174), .bin .mul .no, [.tmp 171, .tmp 173], none⟩,
          .ev ⟨(some 175), .mv, [.tmp 26], none⟩,
          .ev ⟨(some 176), .bin .sub .no, [.const (.int .i64 1000), .tmp 175], none⟩,
          .ev ⟨(some 177), .bin .mul .no, [.tmp 174, .tmp 176], none⟩,
          .ev ⟨(some 178), .mv, [.tmp 27], none⟩,
          .ev ⟨(some 179), .bin .sub .no, [.const (.int .i64 1000), .tmp 178], none⟩,
          .ev ⟨(some 180), .bin .mul .no, [.tmp 177, .tmp 179], none⟩,
          .ev ⟨(some 181), .bin .add .no, [.tmp 170, .tmp 180], none⟩,
          .ev ⟨(some 22), .mv, [.tmp 181], none⟩])))))
      (.reg [
        .ev ⟨(some 115), .mv, [.tmp 23], none⟩,
        .ev ⟨(some 116), .bin .add .no, [.tmp 115, .const (.int .i64 1)], none⟩,
        .ev ⟨(some 23), .mv, [.tmp 116], none⟩]))))))
  (.seq (.reg [
    .ev ⟨(some 182), .mv, [.tmp 2], none⟩,
    .ev ⟨(some 183), .mv, [.tmp 21], none⟩,
    .ev ⟨(some 184), .mv, [.tmp 22], none⟩,
    .ev ⟨(some 185), .call 12, [.tmp 182, .tmp 183, .tmp 184], none⟩,
    .ev ⟨(some 29), .alloc [(.int .i64 0), (.int .i64 0)], [], none⟩,
    .ev ⟨none, .store 2, [.tmp 29, .tmp 185], none⟩])
  (.seq (.reg [
    .ev ⟨(some 186), .loadN 2, [.tmp 29], none⟩,
    .ev ⟨(some 188), .fld 4, [.tmp 17], none⟩,
    .ev ⟨(some 189), .load1, [.tmp 188], none⟩,
    .ev ⟨(some 191), .loadN 2, [.tmp 29], none⟩,
    .ev ⟨(some 193), .fld 4, [.tmp 17], none⟩,
    .ev ⟨(some 194), .load1, [.tmp 193], none⟩,
    .ev ⟨(some 187), .call 13, [.tmp 186], none⟩,
    .again ⟨(some 189), .load1, [.tmp 188], none⟩,
    .again ⟨(some 191), .loadN 2, [.tmp 29], none⟩,
    .again ⟨(some 194), .load1, [.tmp 193], none⟩,
    .ev ⟨(some 190), .bin .sub .no, [.tmp 187, .tmp 189], none⟩,
    .ev ⟨(some 192), .call 14, [.tmp 191], none⟩,
    .again ⟨(some 189), .load1, [.tmp 188], none⟩,
    .again ⟨(some 194), .load1, [.tmp 193], none⟩,
    .ev ⟨(some 195), .bin .add .no, [.tmp 192, .tmp 194], none⟩,
    .ev ⟨(some 30), .mv, [.tmp 190], none⟩,
    .ev ⟨(some 31), .mv, [.tmp 195], none⟩])
  (.seq (.seq (.reg [
    .ev ⟨(some 196), .mv, [.tmp 30], none⟩,
    .ev ⟨(some 197), .mv, [.tmp 31], none⟩,
    .ev ⟨(some 198), .bin .gtr .no, [.tmp 196, .tmp 197], none⟩])
  (.cond (.tmp 198)
   (.seq (.reg [
      .ev ⟨(some 199), .call 7, [], none⟩,
      .ev ⟨(some 10), .mv, [.tmp 199], none⟩])
    (.ret))
   (.skip)))
  (.seq (.reg [
    .ev ⟨(some 200), .mv, [.tmp 30], none⟩,
    .ev ⟨(some 201), .load1, [.tmp 9], none⟩,
    .ev ⟨(some 202), .ixS 1, [.tmp 201, .const (.int .i64 0)], none⟩,
    .ev ⟨(some 203), .load1, [.tmp 202], none⟩,
    .ev ⟨(some 204), .conv .i64, [.tmp 203], none⟩,
    .ev ⟨(some 205), .mv, [.tmp 31], none⟩,
    .ev ⟨(some 206), .mv, [.tmp 30], none⟩,
    .ev ⟨(some 207), .bin .sub .no, [.tmp 205, .tmp 206], none⟩,
    .ev ⟨(some 208), .bin .add .no, [.tmp 207, .const (.int .i64 1)], none⟩,
    .ev ⟨(some 209), .bin .rem .no, [.tmp 204, .tmp 208], none⟩,
    .ev ⟨(some 210), .bin .add .no, [.tmp 200, .tmp 209], none⟩,
    .ev ⟨(some 32), .mv, [.tmp 210], none⟩])
  (.seq (.seq (.reg [
    .ev ⟨(some 211), .mv, [.tmp 32], none⟩,
    .ev ⟨(some 212), .bin .lss .no, [.tmp 211, .const (.int .i64 0)], none⟩,
    .ev ⟨(some 213), .mv, [.tmp 212], none⟩,
    .ev ⟨(some 214), .mv, [.tmp 32], some (213, false)⟩,
    .ev ⟨(some 215), .bin .gtr .no, [.tmp 214, .const (.int .i64 200)], some (213, false)⟩,
    .ev ⟨(some 216), .pick, [.tmp 213, .const (.bool true), .tmp 215], none⟩])
  (.cond (.tmp 216)
   (.seq (.reg [
      .ev ⟨(some 217), .call 7, [], none⟩,
      .ev ⟨(some 10), .mv, [.tmp 217], none⟩])
    (.ret))
   (.skip)))
  (.seq (.seq (.reg [
    .ev ⟨(some 218), .mv, [.tmp 19], none⟩,
    .ev ⟨(some 219), .bin .neq .no, [.tmp 218, .const (.int .i64 0)], none⟩,
    .ev ⟨(some 220), .mv, [.tmp 219], none⟩,
    .ev ⟨(some 221), .mv, [.tmp 32], some (220, false)⟩,
    .ev ⟨(some 222), .fld 0, [.tmp 18], some (220, false)⟩,
    .ev ⟨(some 223), .load1, [.tmp 222], some (220, false)⟩,
    .ev ⟨(some 224), .bin .lss .no, [.tmp 221, .tmp 223], some (220, false)⟩,
    .ev ⟨(some 225), .pick, [.tmp 220, .const (.bool true), .tmp 224], none⟩,
    .ev ⟨(some 226), .mv, [.tmp 225], none⟩,
    .ev ⟨(some 227), .mv, [.tmp 32], some (226, false)⟩,
    .ev ⟨(some 228), .fld 1, [.tmp 18], some (226, false)⟩,
    .ev ⟨(some 229), .load1, [.tmp 228], some (226, false)⟩,
    .ev ⟨(some 230), .bin .gtr .no, [.tmp 227, .tmp 229], some (226, false)⟩,
    .ev ⟨(some 231), .pick, [.tmp 226, .const (.bool true), .tmp 230], none⟩])
  (.cond (.tmp 231)
   (.seq (.reg [
      .ev ⟨(some 10), .mv, [.const (.bool false)], none⟩])
    (.ret))
   (.skip)))
  (.seq (.reg [
    .ev ⟨(some 232), .mv, [.tmp 2], none⟩,
    .ev ⟨(some 233), .fld 0, [.tmp 15], none⟩,
    .ev ⟨(some 234), .load1, [.tmp 233], none⟩,
    .ev ⟨(some 235), .fld 0, [.tmp 15], none⟩,
    .ev ⟨(some 236), .load1, [.tmp 235], none⟩,
    .ev ⟨(some 237), .bin .sub .no, [.const (.int .i64 1000), .tmp 236], none⟩,
    .ev ⟨(some 239), .mv, [.tmp 2], none⟩,
    .ev ⟨(some 240), .fld 1, [.tmp 15], none⟩,
    .ev ⟨(some 241), .load1, [.tmp 240], none⟩,
    .ev ⟨(some 242), .fld 1, [.tmp 15], none⟩,
    .ev ⟨(some 243), .load1, [.tmp 242], none⟩,
    .ev ⟨(some 244), .bin .sub .no, [.const (.int .i64 1000), .tmp 243], none⟩,
    .ev ⟨(some 33), .alloc [(.int .i64 0), (.int .i64 0)], [], none⟩,
    .ev ⟨(some 34), .alloc [(.int .i64 0), (.int .i64 0)], [], none⟩,
    .ev ⟨(some 238), .call 12, [.tmp 232, .tmp 234, .tmp 237], none⟩,
    .again ⟨(some 241), .load1, [.tmp 240], none⟩,
    .again ⟨(some 243), .load1, [.tmp 242], none⟩,
    .again ⟨(some 33), .alloc [(.int .i64 0), (.int .i64 0)], [], none⟩,
    .again ⟨(some 34), .alloc [(.int .i64 0), (.int .i64 0)], [], none⟩,
    .ev ⟨(some 245), .call 12, [.tmp 239, .tmp 241, .tmp 244], none⟩,
    .again ⟨(some 33), .alloc [(.int .i64 0), (.int .i64 0)], [], none⟩,
    .again ⟨(some 34), .alloc [(.int .i64 0), (.int .i64 0)], [], none⟩,
    .ev ⟨none, .store 2, [.tmp 33, .tmp 238], none⟩,
    .ev ⟨none, .store 2, [.tmp 34, .tmp 245], none⟩])
  (.seq (.reg [
    .ev ⟨(some 246), .loadN 2, [.tmp 33], none⟩,
    .ev ⟨(some 248), .loadN 2, [.tmp 29], none⟩,
    .ev ⟨(some 247), .call 14, [.tmp 246], none⟩,
    .again ⟨(some 248), .loadN 2, [.tmp 29], none⟩,
    .ev ⟨(some 249), .call 13, [.tmp 248], none⟩,
    .ev ⟨(some 250), .bin .leq .no, [.tmp 247, .tmp 249], none⟩,
    .ev ⟨(some 251), .mv, [.tmp 250], none⟩,
    .ev ⟨(some 252), .loadN 2, [.tmp 34], some (251, true)⟩,
    .ev ⟨(some 254), .loadN 2, [.tmp 29], some (251, true)⟩,
    .ev ⟨(some 253), .call 13, [.tmp 252], some (251, true)⟩,
    .again ⟨(some 254), .loadN 2, [.tmp 29], some (251, true)⟩,
    .ev ⟨(some 255), .call 14, [.tmp 254], some (251, true)⟩,
    .ev ⟨(some 256), .bin .geq .no, [.tmp 253, .tmp 255], some (251, true)⟩,
    .ev ⟨(some 257), .pick, [.tmp 251, .tmp 256, .const (.bool false)], none⟩,
    .ev ⟨(some 258), .mv, [.tmp 257], none⟩,
    .ev ⟨(some 259), .call 7, [], some (258, true)⟩,
    .ev ⟨(some 260), .pick, [.tmp 258, .tmp 259, .const (.bool false)], none⟩,
    .ev ⟨(some 10), .mv, [.tmp 260], none⟩])
  (.ret)))))))))))))))))))))
theorem fl3 : flatC Try.prog Try.f3.ntmps (Try.f3.body.getD .skip) = some c3 := by kernel_rfl
theorem rs3 : allSome (Try.f3.results.toList.map (flatRes Try.prog)) = some [.tmp 10] := by kernel_rfl
theorem nm3 : (Try.f3.name == "runtime.NumGoroutine") = false := by kernel_rfl
theorem nt3 : Try.f3.ntmps = 261 := by kernel_rfl
theorem gd3 : GoodF Try.prog 3 261 c3 [.tmp 10] := ⟨Try.f3, _, Try.func3, rfl, nm3, nt3, fl3, rs3⟩

/- pencilworks/pencilworksref01.Sacks; parameters: 1; captured: 0 -/
def c4 : AC := .seq (.reg [
    .ev ⟨(some 2), .mv, [.const (.bool false)], none⟩])
  (.seq (.seq (.reg [
    .ev ⟨(some 3), .mv, [.const (.int .i64 0)], none⟩])
  (.block 0 (.loop (.seq (.seq (.reg [
        .ev ⟨(some 4), .mv, [.tmp 3], none⟩,
        .ev ⟨(some 5), .mv, [.tmp 0], none⟩,
        .ev ⟨(some 6), .len, [.tmp 5], none⟩,
        .ev ⟨(some 7), .bin .lss .no, [.tmp 4, .tmp 6], none⟩])
      (.cond (.tmp 7)
       (.skip)
       (.exit 0)))
      (.seq (.block 1 (.seq (.reg [
          .ev ⟨(some 10), .mv, [.tmp 0], none⟩,
          .ev ⟨(some 11), .mv, [.tmp 3], none⟩,
          .ev ⟨(some 12), .ixS 6, [.tmp 10, .tmp 11], none⟩,
          .ev ⟨(some 13), .fld 0, [.tmp 12], none⟩,
          .ev ⟨(some 14), .loadN 2, [.tmp 13], none⟩,
          .ev ⟨(some 15), .call 15, [.tmp 14, .const (.int .i64 0), .const (.int .i64 900)], none⟩,
          .ev ⟨(some 16), .un .not, [.tmp 15], none⟩,
          .ev ⟨(some 17), .mv, [.tmp 16], none⟩,
          .ev ⟨(some 18), .mv, [.tmp 0], some (17, false)⟩,
          .ev ⟨(some 19), .mv, [.tmp 3], some (17, false)⟩,
          .ev ⟨(some 20), .ixS 6, [.tmp 18, .tmp 19], some (17, false)⟩,
          .ev ⟨(some 21), .fld 2, [.tmp 20], some (17, false)⟩,
          .ev ⟨(some 22), .loadN 2, [.tmp 21], some (17, false)⟩,
          .ev ⟨(some 23), .call 15, [.tmp 22, .const (.int .i64 0), .const (.int .i64 1000)], some (17, false)⟩,
          .ev ⟨(some 24), .un .not, [.tmp 23], some (17, false)⟩,
          .ev ⟨(some 25), .pick, [.tmp 17, .const (.bool true), .tmp 24], none⟩,
          .ev ⟨(some 26), .mv, [.tmp 25], none⟩,
          .ev ⟨(some 27), .mv, [.tmp 0], some (26, false)⟩,
          .ev ⟨(some 28), .mv, [.tmp 3], some (26, false)⟩,
          .ev ⟨(some 29), .ixS 6, [.tmp 27, .tmp 28], some (26, false)⟩,
          .ev ⟨(some 30), .fld 4, [.tmp 29], some (26, false)⟩,
          .ev ⟨(some 31), .loadN 2, [.tmp 30], some (26, false)⟩,
          .ev ⟨(some 32), .call 15, [.tmp 31, .const (.int .i64 0), .const (.int .i64 900)], some (26, false)⟩,
          .ev ⟨(some 33), .un .not, [.tmp 32], some (26, false)⟩,
          .ev ⟨(some 34), .pick, [.tmp 26, .const (.bool true), .tmp 33], none⟩])
        (.cond (.tmp 34)
         (.seq (.reg [
            .ev ⟨(some 2), .mv, [.const (.bool false)], none⟩])
          (.ret))
         (.skip))))
      (.reg [
        .ev ⟨(some 8), .mv, [.tmp 3], none⟩,
        .ev ⟨(some 9), .bin .add .no, [.tmp 8, .const (.int .i64 1)], none⟩,
        .ev ⟨(some 3), .mv, [.tmp 9], none⟩]))))))
  (.seq (.reg [
    .ev ⟨(some 35), .mv, [.tmp 0], none⟩,
    .ev ⟨(some 36), .len, [.tmp 35], none⟩,
    .ev ⟨(some 37), .bin .leq .no, [.tmp 36, .const (.int .i64 8)], none⟩,
    .ev ⟨(some 2), .mv, [.tmp 37], none⟩])
  (.ret)))
theorem fl4 : flatC Try.prog Try.f4.ntmps (Try.f4.body.getD .skip) = some c4 := by kernel_rfl
theorem rs4 : allSome (Try.f4.results.toList.map (flatRes Try.prog)) = some [.tmp 2] := by kernel_rfl
theorem nm4 : (Try.f4.name == "runtime.NumGoroutine") = false := by kernel_rfl
theorem nt4 : Try.f4.ntmps = 38 := by kernel_rfl
theorem gd4 : GoodF Try.prog 4 38 c4 [.tmp 2] := ⟨Try.f4, _, Try.func4, rfl, nm4, nt4, fl4, rs4⟩

/- pencilworks/pencilworksref01.Batch; parameters: 2; captured: 0 -/
def c5 : AC := .seq (.reg [
    .ev ⟨(some 4), .mv, [.const (.bool false)], none⟩])
  (.seq (.seq (.reg [
    .ev ⟨(some 5), .mv, [.const (.int .i64 0)], none⟩])
  (.block 0 (.loop (.seq (.seq (.reg [
        .ev ⟨(some 6), .mv, [.tmp 5], none⟩,
        .ev ⟨(some 7), .mv, [.tmp 1], none⟩,
        .ev ⟨(some 8), .len, [.tmp 7], none⟩,
        .ev ⟨(some 9), .bin .lss .no, [.tmp 6, .tmp 8], none⟩])
      (.cond (.tmp 9)
       (.skip)
       (.exit 0)))
      (.seq (.block 1 (.seq (.reg [
          .ev ⟨(some 12), .mv, [.tmp 1], none⟩,
          .ev ⟨(some 13), .mv, [.tmp 5], none⟩,
          .ev ⟨(some 14), .ixS 3, [.tmp 12, .tmp 13], none⟩,
          .ev ⟨(some 15), .fld 0, [.tmp 14], none⟩,
          .ev ⟨(some 16), .load1, [.tmp 15], none⟩,
          .ev ⟨(some 17), .mv, [.tmp 0], none⟩,
          .ev ⟨(some 18), .len, [.tmp 17], none⟩,
          .ev ⟨(some 19), .bin .sub .no, [.tmp 18, .const (.int .i64 1)], none⟩,
          .ev ⟨(some 20), .call 16, [.tmp 16, .const (.int .i64 0), .tmp 19], none⟩,
          .ev ⟨(some 21), .un .not, [.tmp 20], none⟩,
          .ev ⟨(some 22), .mv, [.tmp 21], none⟩,
          .ev ⟨(some 23), .mv, [.tmp 1], some (22, false)⟩,
          .ev ⟨(some 24), .mv, [.tmp 5], some (22, false)⟩,
          .ev ⟨(some 25), .ixS 3, [.tmp 23, .tmp 24], some (22, false)⟩,
          .ev ⟨(some 26), .fld 1, [.tmp 25], some (22, false)⟩,
          .ev ⟨(some 27), .loadN 2, [.tmp 26], some (22, false)⟩,
          .ev ⟨(some 28), .call 15, [.tmp 27, .const (.int .i64 1), .const (.int .i64 100000)], some (22, false)⟩,
          .ev ⟨(some 29), .un .not, [.tmp 28], some (22, false)⟩,
          .ev ⟨(some 30), .pick, [.tmp 22, .const (.bool true), .tmp 29], none⟩])
        (.cond (.tmp 30)
         (.seq (.reg [
            .ev ⟨(some 4), .mv, [.const (.bool false)], none⟩])
          (.ret))
         (.skip))))
      (.reg [
        .ev ⟨(some 10), .mv, [.tmp 5], none⟩,
        .ev ⟨(some 11), .bin .add .no, [.tmp 10, .const (.int .i64 1)], none⟩,
        .ev ⟨(some 5), .mv, [.tmp 11], none⟩]))))))
  (.seq (.reg [
    .ev ⟨(some 31), .mv, [.tmp 1], none⟩,
    .ev ⟨(some 32), .len, [.tmp 31], none⟩,
    .ev ⟨(some 33), .call 16, [.tmp 32, .const (.int .i64 1), .const (.int .i64 8)], none⟩,
    .ev ⟨(some 4), .mv, [.tmp 33], none⟩])
  (.ret)))
theorem fl5 : flatC Try.prog Try.f5.ntmps (Try.f5.body.getD .skip) = some c5 := by kernel_rfl
theorem rs5 : allSome (Try.f5.results.toList.map (flatRes Try.prog)) = some [.tmp 4] := by kernel_rfl
theorem nm5 : (Try.f5.name == "runtime.NumGoroutine") = false := by kernel_rfl
theorem nt5 : Try.f5.ntmps = 34 := by kernel_rfl
theorem gd5 : GoodF Try.prog 5 34 c5 [.tmp 4] := ⟨Try.f5, _, Try.func5, rfl, nm5, nt5, fl5, rs5⟩

/- pencilworks/pencilworksref02.Curve; parameters: 1; captured: 0 -/
def c6 : AC := .seq (.reg [
    .ev ⟨(some 2), .mv, [.const (.bool false)], none⟩])
  (.seq (.seq (.reg [
    .ev ⟨(some 4), .mv, [.tmp 0], none⟩,
    .ev ⟨(some 5), .len, [.tmp 4], none⟩,
    .ev ⟨(some 6), .call 17, [.tmp 5, .const (.int .i64 2), .const (.int .i64 8)], none⟩,
    .ev ⟨(some 7), .un .not, [.tmp 6], none⟩,
    .ev ⟨(some 8), .mv, [.tmp 7], none⟩,
    .ev ⟨(some 9), .mv, [.tmp 0], some (8, false)⟩,
    .ev ⟨(some 10), .ixS 2, [.tmp 9, .const (.int .i64 0)], some (8, false)⟩,
    .ev ⟨(some 11), .fld 0, [.tmp 10], some (8, false)⟩,
    .ev ⟨(some 12), .load1, [.tmp 11], some (8, false)⟩,
    .ev ⟨(some 13), .bin .neq .no, [.tmp 12, .const (.int .i64 0)], some (8, false)⟩,
    .ev ⟨(some 14), .pick, [.tmp 8, .const (.bool true), .tmp 13], none⟩,
    .ev ⟨(some 15), .mv, [.tmp 14], none⟩,
    .ev ⟨(some 16), .mv, [.tmp 0], some (15, false)⟩,
    .ev ⟨(some 17), .mv, [.tmp 0], some (15, false)⟩,
    .ev ⟨(some 18), .len, [.tmp 17], some (15, false)⟩,
    .ev ⟨(some 19), .bin .sub .no, [.tmp 18, .const (.int .i64 1)], some (15, false)⟩,
    .ev ⟨(some 20), .ixS 2, [.tmp 16, .tmp 19], some (15, false)⟩,
    .ev ⟨(some 21), .fld 0, [.tmp 20], some (15, false)⟩,
    .ev ⟨(some 22), .load1, [.tmp 21], some (15, false)⟩,
    .ev ⟨(some 23), .bin .neq .no, [.tmp 22, .const (.int .i64 1000)], some (15, false)⟩,
    .ev ⟨(some 24), .pick, [.tmp 15, .const (.bool true), .tmp 23], none⟩])
  (.cond (.tmp 24)
   (.seq (.reg [
      .ev ⟨(some 2), .mv, [.const (.bool false)], none⟩])
    (.ret))
   (.skip)))
  (.seq (.seq (.reg [
    .ev ⟨(some 3), .mv, [.const (.int .i64 0)], none⟩])
  (.block 0 (.loop (.seq (.seq (.reg [
        .ev ⟨(some 25), .mv, [.tmp 3], none⟩,
        .ev ⟨(some 26), .mv, [.tmp 0], none⟩,
        .ev ⟨(some 27), .len, [.tmp 26], none⟩,
        .ev ⟨(some 28), .bin .lss .no, [.tmp 25, .tmp 27], none⟩])
      (.cond (.tmp 28)
       (.skip)
       (.exit 0)))
      (.seq (.block 1 (.seq (.reg [
          .ev ⟨(some 31), .mv, [.tmp 0], none⟩,
          .ev ⟨(some 32), .mv, [.tmp 3], none⟩,
          .ev ⟨(some 33), .ixS 2, [.tmp 31, .tmp 32], none⟩,
          .ev ⟨(some 34), .fld 1, [.tmp 33], none⟩,
          .ev ⟨(some 35), .load1, [.tmp 34], none⟩,
          .ev ⟨(some 36), .call 17, [.tmp 35, .const (.int .i64 0), .const (.int .i64 200)], none⟩,
          .ev ⟨(some 37), .un .not, [.tmp 36], none⟩,
          .ev ⟨(some 38), .mv, [.tmp 37], none⟩,
          .ev ⟨(some 39), .mv, [.tmp 3], some (38, false)⟩,
          .ev ⟨(some 40), .bin .gtr .no, [.tmp 39, .const (.int .i64 0)], some (38, false)⟩,
          .ev ⟨(some 41), .mv, [.tmp 40], some (38, false)⟩,
          .ev ⟨(some 42), .mv, [.tmp 0], some (41, true)⟩,
          .ev ⟨(some 43), .mv, [.tmp 3], some (41, true)⟩,
          .ev ⟨(some 44), .ixS 2, [.tmp 42, .tmp 43], some (41, true)⟩,
          .ev ⟨(some 45), .fld 0, [.tmp 44], some (41, true)⟩,
          .ev ⟨(some 46), .load1, [.tmp 45], some (41, true)⟩,
          .ev ⟨(some 47), .mv, [.tmp 0], some (41, true)⟩,
          .ev ⟨(some 48), .mv, [.tmp 3], some (41, true)⟩,
          .ev ⟨(some 49), .bin .sub .no, [.tmp 48, .const (.int .i64 1)], some (41, true)⟩,
          .ev ⟨(some 50), .ixS 2, [.tmp 47, .tmp 49], some (41, true)⟩,
          .ev ⟨(some 51), .fld 0, [.tmp 50], some (41, true)⟩,
          .ev ⟨(some 52), .load1, [.tmp 51], some (41, true)⟩,
          .ev ⟨(some 53), .bin .leq .no, [.tmp 46, .tmp 52], some (41, true)⟩,
          .ev ⟨(some 54), .mv, [.tmp 53], some (41, true)⟩,
          .ev ⟨(some 55), .mv, [.tmp 0], some (54, false)⟩,
          .ev ⟨(some 56), .mv, [.tmp 3], some (54, false)⟩,
          .ev ⟨(some 57), .ixS 2, [.tmp 55, .tmp 56], some (54, false)⟩,
          .ev ⟨(some 58), .fld 1, [.tmp 57], some (54, false)⟩,
          .ev ⟨(some 59), .load1, [.tmp 58], some (54, false)⟩,
          .ev ⟨(some 60), .mv, [.tmp 0], some (54, false)⟩,
          .ev ⟨(some 61), .mv, [.tmp 3], some (54, false)⟩,
          .ev ⟨(some 62), .bin .sub .no, [.tmp 61, .const (.int .i64 1)], some (54, false)⟩,
          .ev ⟨(some 63), .ixS 2, [.tmp 60, .tmp 62], some (54, false)⟩,
          .ev ⟨(some 64), .fld 1, [.tmp 63], some (54, false)⟩,
          .ev ⟨(some 65), .load1, [.tmp 64], some (54, false)⟩,
          .ev ⟨(some 66), .bin .lss .no, [.tmp 59, .tmp 65], some (54, false)⟩,
          .ev ⟨(some 67), .pick, [.tmp 54, .const (.bool true), .tmp 66], some (41, true)⟩,
          .ev ⟨(some 68), .pick, [.tmp 41, .tmp 67, .const (.bool false)], some (38, false)⟩,
          .ev ⟨(some 69), .pick, [.tmp 38, .const (.bool true), .tmp 68], none⟩])
        (.cond (.tmp 69)
         (.seq (.reg [
            .ev ⟨(some 2), .mv, [.const (.bool false)], none⟩])
          (.ret))
         (.skip))))
      (.reg [
        .ev ⟨(some 29), .mv, [.tmp 3], none⟩,
        .ev ⟨(some 30), .bin .add .no, [.tmp 29, .const (.int .i64 1)], none⟩,
        .ev ⟨(some 3), .mv, [.tmp 30], none⟩]))))))
  (.seq (.reg [
    .ev ⟨(some 2), .mv, [.const (.bool true)], none⟩])
  (.ret))))
theorem fl6 : flatC Try.prog Try.f6.ntmps (Try.f6.body.getD .skip) = some c6 := by kernel_rfl
theorem rs6 : allSome (Try.f6.results.toList.map (flatRes Try.prog)) = some [.tmp 2] := by kernel_rfl
theorem nm6 : (Try.f6.name == "runtime.NumGoroutine") = false := by kernel_rfl
theorem nt6 : Try.f6.ntmps = 70 := by kernel_rfl
theorem gd6 : GoodF Try.prog 6 70 c6 [.tmp 2] := ⟨Try.f6, _, Try.func6, rfl, nm6, nt6, fl6, rs6⟩

/- pencilworks/pencilworkstop.awake02; parameters: 0; captured: 0 -/
def c7 : AC := .seq (.reg [
    .ev ⟨(some 0), .mv, [.const (.bool false)], none⟩])
  (.seq (.reg [
    .ev ⟨(some 7), .build [(.int .i64 0), (.int .i64 0)] [(0, 1), (1, 1)], [.const (.int .i64 10), .const (.int .i64 20)], none⟩,
    .ev ⟨(some 8), .build [(.int .i64 0), (.int .i64 0)] [(0, 1), (1, 1)], [.const (.int .i64 900), .const (.int .i64 950)], none⟩,
    .ev ⟨(some 9), .build [(.int .i64 0), (.int .i64 0), (.int .i64 0), (.int .i64 0), (.int .i64 0), (.int .i64 0)] [(0, 2), (2, 2)], [.tmp 7, .tmp 8], none⟩,
    .ev ⟨(some 10), .build [(.int .i64 0), (.int .i64 0)] [(0, 1), (1, 1)], [.const (.int .i64 100), .const (.int .i64 150)], none⟩,
    .ev ⟨(some 11), .build [(.int .i64 0), (.int .i64 0)] [(0, 1), (1, 1)], [.const (.int .i64 100), .const (.int .i64 120)], none⟩,
    .ev ⟨(some 12), .build [(.int .i64 0), (.int .i64 0), (.int .i64 0), (.int .i64 0), (.int .i64 0), (.int .i64 0)] [(0, 2), (4, 2)], [.tmp 10, .tmp 11], none⟩,
    .ev ⟨(some 13), .bslice 2 6 [(.int .i64 0), (.int .i64 0), (.int .i64 0), (.int .i64 0), (.int .i64 0), (.int .i64 0), (.int .i64 0), (.int .i64 0), (.int .i64 0), (.int .i64 0), (.int .i64 0), (.int .i64 0)] [(0, 6), (6, 6)], [.tmp 9, .tmp 12], none⟩,
    .ev ⟨(some 1), .mv, [.tmp 13], none⟩])
  (.seq (.reg [
    .ev ⟨(some 15), .mv, [.tmp 1], none⟩,
    .ev ⟨(some 16), .build [(.int .i64 0), (.int .i64 0)] [(0, 1), (1, 1)], [.const (.int .i64 600), .const (.int .i64 600)], none⟩,
    .ev ⟨(some 17), .build [(.int .i64 0), (.int .i64 0), (.int .i64 0)] [(1, 2)], [.tmp 16], none⟩,
    .ev ⟨(some 18), .build [(.int .i64 0), (.int .i64 0)] [(0, 1), (1, 1)], [.const (.int .i64 500), .const (.int .i64 510)], none⟩,
    .ev ⟨(some 19), .build [(.int .i64 0), (.int .i64 0), (.int .i64 0)] [(0, 1), (1, 2)], [.const (.int .i64 1), .tmp 18], none⟩,
    .ev ⟨(some 20), .bslice 2 3 [(.int .i64 0), (.int .i64 0), (.int .i64 0), (.int .i64 0), (.int .i64 0), (.int .i64 0)] [(0, 3), (3, 3)], [.tmp 17, .tmp 19], none⟩,
    .ev ⟨(some 21), .call 9, [.tmp 15, .tmp 20], none⟩,
    .ev ⟨(some 14), .mv, [.tmp 21], none⟩,
    .ev ⟨(some 22), .ext 0, [.tmp 14], none⟩,
    .ev ⟨(some 23), .ext 1, [.tmp 14], none⟩,
    .ev ⟨(some 2), .alloc [(.int .i64 0), (.int .i64 0)], [], none⟩,
    .ev ⟨none, .store 2, [.tmp 2, .tmp 22], none⟩,
    .ev ⟨(some 3), .mv, [.tmp 23], none⟩])
  (.seq (.reg [
    .ev ⟨(some 24), .build [(.int .i64 0), (.int .i64 0)] [], [], none⟩,
    .ev ⟨(some 25), .build [(.int .i64 0), (.int .i64 0)] [(0, 1), (1, 1)], [.const (.int .i64 1000), .const (.int .i64 200)], none⟩,
    .ev ⟨(some 26), .bslice 2 2 [(.int .i64 0), (.int .i64 0), (.int .i64 0), (.int .i64 0)] [(0, 2), (2, 2)], [.tmp 24, .tmp 25], none⟩,
    .ev ⟨(some 4), .mv, [.tmp 26], none⟩])
  (.seq (.reg [
    .ev ⟨(some 28), .mv, [.tmp 4], none⟩,
    .ev ⟨(some 29), .build [(.int .i64 0), (.int .i64 0)] [(0, 1), (1, 1)], [.const (.int .i64 420), .const (.int .i64 420)], none⟩,
    .ev ⟨(some 30), .build [(.int .i64 0), (.int .i64 0)] [(0, 1), (1, 1)], [.const (.int .i64 580), .const (.int .i64 580)], none⟩,
    .ev ⟨(some 31), .build [(.int .i64 0), (.int .i64 0), (.int .i64 0), (.int .i64 0), (.int .i64 0), (.slice none 0 0), (.int .i64 0), (.int .i64 0), (.int .i64 0), (.int .i64 0), (.int .i64 0)] [(0, 2), (2, 2), (4, 1)], [.tmp 29, .tmp 30, .const (.int .i64 4)], none⟩,
    .ev ⟨(some 32), .call 10, [.tmp 28, .tmp 31], none⟩,
    .ev ⟨(some 27), .mv, [.tmp 32], none⟩,
    .ev ⟨(some 33), .ext 0, [.tmp 27], none⟩,
    .ev ⟨(some 34), .ext 1, [.tmp 27], none⟩,
    .ev ⟨(some 5), .alloc [(.int .i64 0), (.int .i64 0)], [], none⟩,
    .ev ⟨none, .store 2, [.tmp 5, .tmp 33], none⟩,
    .ev ⟨(some 6), .mv, [.tmp 34], none⟩])
  (.seq (.reg [
    .ev ⟨(some 35), .loadN 2, [.tmp 2], none⟩,
    .ev ⟨(some 36), .build [(.int .i64 0), (.int .i64 0)] [(0, 1), (1, 1)], [.const (.int .i64 528), .const (.int .i64 583)], none⟩,
    .ev ⟨(some 37), .bin .eql (.struct [true, true]), [.tmp 35, .tmp 36], none⟩,
    .ev ⟨(some 38), .mv, [.tmp 37], none⟩,
    .ev ⟨(some 39), .mv, [.tmp 3], some (38, true)⟩,
    .ev ⟨(some 40), .bin .eql .no, [.tmp 39, .const (.int .i64 0)], some (38, true)⟩,
    .ev ⟨(some 41), .pick, [.tmp 38, .tmp 40, .const (.bool false)], none⟩,
    .ev ⟨(some 42), .mv, [.tmp 41], none⟩,
    .ev ⟨(some 43), .loadN 2, [.tmp 5], some (42, true)⟩,
    .ev ⟨(some 44), .build [(.int .i64 0), (.int .i64 0)] [(0, 1), (1, 1)], [.const (.int .i64 80), .const (.int .i64 88)], some (42, true)⟩,
    .ev ⟨(some 45), .bin .eql (.struct [true, true]), [.tmp 43, .tmp 44], some (42, true)⟩,
    .ev ⟨(some 46), .pick, [.tmp 42, .tmp 45, .const (.bool false)], none⟩,
    .ev ⟨(some 47), .mv, [.tmp 46], none⟩,
    .ev ⟨(some 48), .mv, [.tmp 6], some (47, true)⟩,
    .ev ⟨(some 49), .bin .eql .no, [.tmp 48, .const (.int .i64 0)], some (47, true)⟩,
    .ev ⟨(some 50), .pick, [.tmp 47, .tmp 49, .const (.bool false)], none⟩,
    .ev ⟨(some 0), .mv, [.tmp 50], none⟩])
  (.ret))))))
theorem fl7 : flatC Try.prog Try.f7.ntmps (Try.f7.body.getD .skip) = some c7 := by kernel_rfl
theorem rs7 : allSome (Try.f7.results.toList.map (flatRes Try.prog)) = some [.tmp 0] := by kernel_rfl
theorem nm7 : (Try.f7.name == "runtime.NumGoroutine") = false := by kernel_rfl
theorem nt7 : Try.f7.ntmps = 51 := by kernel_rfl
theorem gd7 : GoodF Try.prog 7 51 c7 [.tmp 0] := ⟨Try.f7, _, Try.func7, rfl, nm7, nt7, fl7, rs7⟩

/- pencilworks/sack.Weigh; parameters: 2; captured: 0 -/
def c8 : AC := .seq (.reg [
    .ev ⟨(some 4), .alloc [(.int .i64 0), (.int .i64 0), (.int .i64 0), (.int .i64 0), (.int .i64 0), (.int .i64 0), (.int .i64 0), (.int .i64 0), (.int .i64 0), (.int .i64 0)], [], none⟩,
    .ev ⟨(some 5), .mv, [.const (.int .i64 0)], none⟩])
  (.seq (.seq (.reg [
    .ev ⟨(some 11), .mv, [.tmp 0], none⟩,
    .ev ⟨(some 12), .call 18, [.tmp 11], none⟩,
    .ev ⟨(some 13), .un .not, [.tmp 12], none⟩,
    .ev ⟨(some 14), .mv, [.tmp 13], none⟩,
    .ev ⟨(some 15), .mv, [.tmp 0], some (14, false)⟩,
    .ev ⟨(some 16), .mv, [.tmp 1], some (14, false)⟩,
    .ev ⟨(some 17), .call 19, [.tmp 15, .tmp 16], some (14, false)⟩,
    .ev ⟨(some 18), .un .not, [.tmp 17], some (14, false)⟩,
    .ev ⟨(some 19), .pick, [.tmp 14, .const (.bool true), .tmp 18], none⟩])
  (.cond (.tmp 19)
   (.seq (.reg [
      .ev ⟨(some 20), .loadN 10, [.tmp 4], none⟩,
      .ev ⟨none, .store 10, [.tmp 4, .tmp 20], none⟩,
      .ev ⟨(some 5), .mv, [.const (.int .i64 1)], none⟩])
    (.ret))
   (.skip)))
  (.seq (.reg [
    .ev ⟨(some 21), .mv, [.tmp 0], none⟩,
    .ev ⟨(some 22), .mv, [.tmp 1], none⟩,
    .ev ⟨(some 23), .call 20, [.tmp 21, .tmp 22], none⟩,
    .ev ⟨(some 6), .mv, [.tmp 23], none⟩])
  (.seq (.reg [
    .ev ⟨(some 7), .alloc [(.int .i64 0), (.int .i64 0), (.int .i64 0), (.int .i64 0), (.int .i64 0), (.int .i64 0), (.int .i64 0), (.int .i64 0), (.int .i64 0), (.int .i64 0)], [], none⟩])
  (.seq (.seq (.reg [
    .ev ⟨(some 24), .build [.nilFunc, .nilFunc, .nilFunc, .nilFunc, .nilFunc] [(0, 1), (1, 1), (2, 1), (3, 1), (4, 1)], [.func 21, .func 22, .func 23, .func 24, .func 25], none⟩,
    .ev ⟨(some 25), .mv, [.const (.int .i64 0)], none⟩])
  (.block 0 (.loop (.seq (.reg [
        .ev ⟨(some 26), .bin .lss .no, [.tmp 25, .const (.int .i64 5)], none⟩])
      (.seq (.cond (.tmp 26)
       (.skip)
       (.exit 0))
      (.seq (.block 1 (.seq (.reg [
          .ev ⟨(some 27), .mv, [.tmp 25], none⟩,
          .ev ⟨(some 28), .ix 5 1 false, [.tmp 24, .tmp 25], none⟩,
          .ev ⟨(some 8), .mv, [.tmp 27], none⟩,
          .ev ⟨(some 9), .mv, [.tmp 28], none⟩])
        (.seq (.reg [
          .ev ⟨(some 29), .mv, [.tmp 6], none⟩,
          .ev ⟨(some 30), .mv, [.tmp 9], none⟩,
          .ev ⟨(some 31), .call 26, [.tmp 29, .tmp 30], none⟩,
          .ev ⟨(some 10), .alloc [(.int .i64 0), (.int .i64 0)], [], none⟩,
          .ev ⟨none, .store 2, [.tmp 10, .tmp 31], none⟩])
        (.reg [
          .ev ⟨(some 32), .mv, [.tmp 8], none⟩,
          .ev ⟨(some 33), .fld 0, [.tmp 10], none⟩,
          .ev ⟨(some 34), .load1, [.tmp 33], none⟩,
          .ev ⟨(some 36), .fld 1, [.tmp 10], none⟩,
          .ev ⟨(some 37), .load1, [.tmp 36], none⟩,
          .ev ⟨(some 35), .call 27, [.tmp 34, .const (.int .i64 1000000000)], none⟩,
          .again ⟨(some 37), .load1, [.tmp 36], none⟩,
          .ev ⟨(some 38), .call 28, [.tmp 37, .const (.int .i64 1000000000)], none⟩,
          .ev ⟨(some 39), .build [(.int .i64 0), (.int .i64 0)] [(0, 1), (1, 1)], [.tmp 35, .tmp 38], none⟩,
          .ev ⟨(some 40), .ixA 5 2, [.tmp 7, .tmp 32], none⟩,
          .ev ⟨none, .store 2, [.tmp 40, .tmp 39], none⟩]))))
      (.reg [
        .ev ⟨(some 41), .bin .add .no, [.tmp 25, .const (.int .i64 1)], none⟩,
        .ev ⟨(some 25), .mv, [.tmp 41], none⟩])))))))
  (.seq (.reg [
    .ev ⟨(some 42), .ixA 5 2, [.tmp 7, .const (.int .i64 0)], none⟩,
    .ev ⟨(some 43), .loadN 2, [.tmp 42], none⟩,
    .ev ⟨(some 44), .ixA 5 2, [.tmp 7, .const (.int .i64 1)], none⟩,
    .ev ⟨(some 45), .loadN 2, [.tmp 44], none⟩,
    .ev ⟨(some 46), .ixA 5 2, [.tmp 7, .const (.int .i64 2)], none⟩,
    .ev ⟨(some 47), .loadN 2, [.tmp 46], none⟩,
    .ev ⟨(some 48), .ixA 5 2, [.tmp 7, .const (.int .i64 3)], none⟩,
    .ev ⟨(some 49), .loadN 2, [.tmp 48], none⟩,
    .ev ⟨(some 50), .ixA 5 2, [.tmp 7, .const (.int .i64 4)], none⟩,
    .ev ⟨(some 51), .loadN 2, [.tmp 50], none⟩,
    .ev ⟨(some 52), .build [(.int .i64 0), (.int .i64 0), (.int .i64 0), (.int .i64 0), (.int .i64 0), (.int .i64 0), (.int .i64 0), (.int .i64 0), (.int .i64 0), (.int .i64 0)] [(0, 2), (2, 2), (4, 2), (6, 2), (8, 2)], [.tmp 43, .tmp 45, .tmp 47, .tmp 49, .tmp 51], none⟩,
    .ev ⟨none, .store 10, [.tmp 4, .tmp 52], none⟩,
    .ev ⟨(some 5), .mv, [.const (.int .i64 0)], none⟩])
  (.ret))))))
theorem fl8 : flatC Try.prog Try.f8.ntmps (Try.f8.body.getD .skip) = some c8 := by kernel_rfl
theorem rs8 : allSome (Try.f8.results.toList.map (flatRes Try.prog)) = some [.many 4 10, .tmp 5] := by kernel_rfl
theorem nm8 : (Try.f8.name == "runtime.NumGoroutine") = false := by kernel_rfl
theorem nt8 : Try.f8.ntmps = 53 := by kernel_rfl
theorem gd8 : GoodF Try.prog 8 53 c8 [.many 4 10, .tmp 5] := ⟨Try.f8, _, Try.func8, rfl, nm8, nt8, fl8, rs8⟩

/- pencilworks/sack.Share; parameters: 2; captured: 0 -/
def c9 : AC := .seq (.reg [
    .ev ⟨(some 4), .alloc [(.int .i64 0), (.int .i64 0)], [], none⟩,
    .ev ⟨(some 5), .mv, [.const (.int .i64 0)], none⟩])
  (.seq (.seq (.reg [
    .ev ⟨(some 9), .mv, [.tmp 0], none⟩,
    .ev ⟨(some 10), .call 18, [.tmp 9], none⟩,
    .ev ⟨(some 11), .un .not, [.tmp 10], none⟩,
    .ev ⟨(some 12), .mv, [.tmp 11], none⟩,
    .ev ⟨(some 13), .mv, [.tmp 0], some (12, false)⟩,
    .ev ⟨(some 14), .mv, [.tmp 1], some (12, false)⟩,
    .ev ⟨(some 15), .call 19, [.tmp 13, .tmp 14], some (12, false)⟩,
    .ev ⟨(some 16), .un .not, [.tmp 15], some (12, false)⟩,
    .ev ⟨(some 17), .pick, [.tmp 12, .const (.bool true), .tmp 16], none⟩])
  (.cond (.tmp 17)
   (.seq (.reg [
      .ev ⟨(some 18), .build [(.int .i64 0), (.int .i64 0)] [], [], none⟩,
      .ev ⟨none, .store 2, [.tmp 4, .tmp 18], none⟩,
      .ev ⟨(some 5), .mv, [.const (.int .i64 1)], none⟩])
    (.ret))
   (.skip)))
  (.seq (.reg [
    .ev ⟨(some 19), .mv, [.tmp 0], none⟩,
    .ev ⟨(some 20), .mv, [.tmp 1], none⟩,
    .ev ⟨(some 21), .call 20, [.tmp 19, .tmp 20], none⟩,
    .ev ⟨(some 6), .alloc [(.map none)], [], none⟩,
    .ev ⟨none, .store 1, [.tmp 6, .tmp 21], none⟩])
  (.seq (.reg [
    .ev ⟨(some 22), .mkF (.func 30) 0, [.tmp 6], none⟩,
    .ev ⟨(some 23), .call 29, [.const (.int .i64 1001), .tmp 22], none⟩,
    .ev ⟨(some 7), .mv, [.tmp 23], none⟩])
  (.seq (.reg [
    .ev ⟨(some 24), .mkF (.func 32) 0, [.tmp 6], none⟩,
    .ev ⟨(some 25), .call 29, [.const (.int .i64 1000), .tmp 24], none⟩,
    .ev ⟨(some 8), .mv, [.tmp 25], none⟩])
  (.seq (.reg [
    .ev ⟨(some 26), .mv, [.tmp 7], none⟩,
    .ev ⟨(some 27), .bin .sub .no, [.tmp 26, .const (.int .i64 1)], none⟩,
    .ev ⟨(some 28), .mv, [.tmp 8], none⟩,
    .ev ⟨(some 29), .build [(.int .i64 0), (.int .i64 0)] [(0, 1), (1, 1)], [.tmp 27, .tmp 28], none⟩,
    .ev ⟨none, .store 2, [.tmp 4, .tmp 29], none⟩,
    .ev ⟨(some 5), .mv, [.const (.int .i64 0)], none⟩])
  (.ret))))))
theorem fl9 : flatC Try.prog Try.f9.ntmps (Try.f9.body.getD .skip) = some c9 := by kernel_rfl
theorem rs9 : allSome (Try.f9.results.toList.map (flatRes Try.prog)) = some [.many 4 2, .tmp 5] := by kernel_rfl
theorem nm9 : (Try.f9.name == "runtime.NumGoroutine") = false := by kernel_rfl
theorem nt9 : Try.f9.ntmps = 30 := by kernel_rfl
theorem gd9 : GoodF Try.prog 9 30 c9 [.many 4 2, .tmp 5] := ⟨Try.f9, _, Try.func9, rfl, nm9, nt9, fl9, rs9⟩

/- pencilworks/shade.Black; parameters: 2; captured: 0 -/
def c10 : AC := .seq (.reg [
    .ev ⟨(some 3), .box, [.tmp 1], none⟩,
    .ev ⟨(some 4), .alloc [(.int .i64 0), (.int .i64 0)], [], none⟩,
    .ev ⟨(some 5), .mv, [.const (.int .i64 0)], none⟩])
  (.seq (.reg [
    .ev ⟨(some 9), .mv, [.tmp 0], none⟩,
    .ev ⟨(some 10), .loadN 11, [.tmp 3], none⟩,
    .ev ⟨(some 11), .bslice 1 11 [(.int .i64 0), (.int .i64 0), (.int .i64 0), (.int .i64 0), (.int .i64 0), (.slice none 0 0), (.int .i64 0), (.int .i64 0), (.int .i64 0), (.int .i64 0), (.int .i64 0)] [(0, 11)], [.tmp 10], none⟩,
    .ev ⟨(some 12), .call 33, [.tmp 9, .tmp 11, .const (.int .i64 1), .const (.bool true)], none⟩,
    .ev ⟨(some 8), .mv, [.tmp 12], none⟩,
    .ev ⟨(some 13), .ext 0, [.tmp 8], none⟩,
    .ev ⟨(some 14), .ext 1, [.tmp 8], none⟩,
    .ev ⟨(some 6), .mv, [.tmp 13], none⟩,
    .ev ⟨(some 7), .mv, [.tmp 14], none⟩])
  (.seq (.seq (.reg [
    .ev ⟨(some 15), .mv, [.tmp 7], none⟩,
    .ev ⟨(some 16), .bin .neq .no, [.tmp 15, .const (.int .i64 0)], none⟩])
  (.cond (.tmp 16)
   (.seq (.reg [
      .ev ⟨(some 17), .build [(.int .i64 0), (.int .i64 0)] [], [], none⟩,
      .ev ⟨(some 18), .mv, [.tmp 7], none⟩,
      .ev ⟨none, .store 2, [.tmp 4, .tmp 17], none⟩,
      .ev ⟨(some 5), .mv, [.tmp 18], none⟩])
    (.ret))
   (.skip)))
  (.seq (.reg [
    .ev ⟨(some 19), .mv, [.tmp 6], none⟩,
    .ev ⟨(some 20), .ixS 13, [.tmp 19, .const (.int .i64 0)], none⟩,
    .ev ⟨(some 21), .fld 11, [.tmp 20], none⟩,
    .ev ⟨(some 22), .loadN 2, [.tmp 21], none⟩,
    .ev ⟨none, .store 2, [.tmp 4, .tmp 22], none⟩,
    .ev ⟨(some 5), .mv, [.const (.int .i64 0)], none⟩])
  (.ret))))
theorem fl10 : flatC Try.prog Try.f10.ntmps (Try.f10.body.getD .skip) = some c10 := by kernel_rfl
theorem rs10 : allSome (Try.f10.results.toList.map (flatRes Try.prog)) = some [.many 4 2, .tmp 5] := by kernel_rfl
theorem nm10 : (Try.f10.name == "runtime.NumGoroutine") = false := by kernel_rfl
theorem nt10 : Try.f10.ntmps = 23 := by kernel_rfl
theorem gd10 : GoodF Try.prog 10 23 c10 [.many 4 2, .tmp 5] := ⟨Try.f10, _, Try.func10, rfl, nm10, nt10, fl10, rs10⟩

/- pencilworks/pencilworkstop.TopBlack$1; parameters: 2; captured: 1 -/
def c11 : AC := .seq (.reg [
    .ev ⟨(some 3), .box, [.tmp 0], none⟩,
    .ev ⟨(some 5), .mv, [.const (.int .i64 0)], none⟩])
  (.seq (.reg [
    .ev ⟨(some 6), .fld 0, [.tmp 3], none⟩,
    .ev ⟨(some 7), .load1, [.tmp 6], none⟩,
    .ev ⟨(some 8), .load1, [.tmp 2], none⟩,
    .ev ⟨(some 9), .mv, [.tmp 1], none⟩,
    .ev ⟨(some 10), .load1, [.tmp 2], none⟩,
    .ev ⟨(some 11), .len, [.tmp 10], none⟩,
    .ev ⟨(some 12), .bin .rem .no, [.tmp 9, .tmp 11], none⟩,
    .ev ⟨(some 13), .ixS 1, [.tmp 8, .tmp 12], none⟩,
    .ev ⟨(some 14), .load1, [.tmp 13], none⟩,
    .ev ⟨(some 15), .conv .i64, [.tmp 14], none⟩,
    .ev ⟨(some 16), .fld 1, [.tmp 3], none⟩,
    .ev ⟨(some 17), .load1, [.tmp 16], none⟩,
    .ev ⟨(some 18), .fld 0, [.tmp 3], none⟩,
    .ev ⟨(some 19), .load1, [.tmp 18], none⟩,
    .ev ⟨(some 20), .bin .sub .no, [.tmp 17, .tmp 19], none⟩,
    .ev ⟨(some 21), .bin .add .no, [.tmp 20, .const (.int .i64 1)], none⟩,
    .ev ⟨(some 22), .bin .rem .no, [.tmp 15, .tmp 21], none⟩,
    .ev ⟨(some 23), .bin .add .no, [.tmp 7, .tmp 22], none⟩,
    .ev ⟨(some 5), .mv, [.tmp 23], none⟩])
  (.ret))
theorem fl11 : flatC Try.prog Try.f11.ntmps (Try.f11.body.getD .skip) = some c11 := by kernel_rfl
theorem rs11 : allSome (Try.f11.results.toList.map (flatRes Try.prog)) = some [.tmp 5] := by kernel_rfl
theorem nm11 : (Try.f11.name == "runtime.NumGoroutine") = false := by kernel_rfl
theorem nt11 : Try.f11.ntmps = 24 := by kernel_rfl
theorem gd11 : GoodF Try.prog 11 24 c11 [.tmp 5] := ⟨Try.f11, _, Try.func11, rfl, nm11, nt11, fl11, rs11⟩

/- pencilworks/pencilworksref02.At; parameters: 3; captured: 0 -/
def c12 : AC := .seq (.reg [
    .ev ⟨(some 6), .alloc [(.int .i64 0), (.int .i64 0)], [], none⟩])
  (.seq (.reg [
    .ev ⟨(some 13), .mv, [.tmp 1], none⟩,
    .ev ⟨(some 14), .mv, [.tmp 2], none⟩,
    .ev ⟨(some 15), .bin .add .no, [.tmp 13, .tmp 14], none⟩,
    .ev ⟨(some 7), .mv, [.tmp 15], none⟩])
  (.seq (.reg [
    .ev ⟨(some 8), .mv, [.const (.int .i64 1)], none⟩])
  (.seq (.block 0 (.loop (.seq (.seq (.reg [
        .ev ⟨(some 16), .mv, [.tmp 8], none⟩,
        .ev ⟨(some 17), .bin .add .no, [.tmp 16, .const (.int .i64 1)], none⟩,
        .ev ⟨(some 18), .mv, [.tmp 0], none⟩,
        .ev ⟨(some 19), .len, [.tmp 18], none⟩,
        .ev ⟨(some 20), .bin .lss .no, [.tmp 17, .tmp 19], none⟩,
        .ev ⟨(some 21), .mv, [.tmp 20], none⟩,
        .ev ⟨(some 22), .mv, [.tmp 0], some (21, true)⟩,
        .ev ⟨(some 23), .mv, [.tmp 8], some (21, true)⟩,
        .ev ⟨(some 24), .ixS 2, [.tmp 22, .tmp 23], some (21, true)⟩,
        .ev ⟨(some 25), .fld 0, [.tmp 24], some (21, true)⟩,
        .ev ⟨(some 26), .load1, [.tmp 25], some (21, true)⟩,
        .ev ⟨(some 27), .mv, [.tmp 7], some (21, true)⟩,
        .ev ⟨(some 28), .bin .mul .no, [.tmp 26, .tmp 27], some (21, true)⟩,
        .ev ⟨(some 29), .mv, [.tmp 1], some (21, true)⟩,
        .ev ⟨(some 30), .bin .mul .no, [.const (.int .i64 1000), .tmp 29], some (21, true)⟩,
        .ev ⟨(some 31), .bin .lss .no, [.tmp 28, .tmp 30], some (21, true)⟩,
        .ev ⟨(some 32), .pick, [.tmp 21, .tmp 31, .const (.bool false)], none⟩])
      (.cond (.tmp 32)
       (.skip)
       (.exit 0)))
      (.block 1 (.reg [
          .ev ⟨(some 33), .mv, [.tmp 8], none⟩,
          .ev ⟨(some 34), .bin .add .no, [.tmp 33, .const (.int .i64 1)], none⟩,
          .ev ⟨(some 8), .mv, [.tmp 34], none⟩])))))
  (.seq (.reg [
    .ev ⟨(some 35), .mv, [.tmp 0], none⟩,
    .ev ⟨(some 36), .mv, [.tmp 8], none⟩,
    .ev ⟨(some 37), .bin .sub .no, [.tmp 36, .const (.int .i64 1)], none⟩,
    .ev ⟨(some 38), .ixS 2, [.tmp 35, .tmp 37], none⟩,
    .ev ⟨(some 39), .loadN 2, [.tmp 38], none⟩,
    .ev ⟨(some 40), .mv, [.tmp 0], none⟩,
    .ev ⟨(some 41), .mv, [.tmp 8], none⟩,
    .ev ⟨(some 42), .ixS 2, [.tmp 40, .tmp 41], none⟩,
    .ev ⟨(some 43), .loadN 2, [.tmp 42], none⟩,
    .ev ⟨(some 9), .alloc [(.int .i64 0), (.int .i64 0)], [], none⟩,
    .ev ⟨(some 10), .alloc [(.int .i64 0), (.int .i64 0)], [], none⟩,
    .ev ⟨none, .store 2, [.tmp 9, .tmp 39], none⟩,
    .again ⟨(some 43), .loadN 2, [.tmp 42], none⟩,
    .ev ⟨none, .store 2, [.tmp 10, .tmp 43], none⟩])
  (.seq (.reg [
    .ev ⟨(some 44), .fld 0, [.tmp 10], none⟩,
    .ev ⟨(some 45), .load1, [.tmp 44], none⟩,
    .ev ⟨(some 46), .fld 0, [.tmp 9], none⟩,
    .ev ⟨(some 47), .load1, [.tmp 46], none⟩,
    .ev ⟨(some 48), .bin .sub .no, [.tmp 45, .tmp 47], none⟩,
    .ev ⟨(some 11), .mv, [.tmp 48], none⟩])
  (.seq (.reg [
    .ev ⟨(some 49), .mv, [.tmp 1], none⟩,
    .ev ⟨(some 50), .bin .mul .no, [.const (.int .i64 1000), .tmp 49], none⟩,
    .ev ⟨(some 51), .fld 0, [.tmp 9], none⟩,
    .ev ⟨(some 52), .load1, [.tmp 51], none⟩,
    .ev ⟨(some 53), .mv, [.tmp 7], none⟩,
    .ev ⟨(some 54), .bin .mul .no, [.tmp 52, .tmp 53], none⟩,
    .ev ⟨(some 55), .bin .sub .no, [.tmp 50, .tmp 54], none⟩,
    .ev ⟨(some 12), .mv, [.tmp 55], none⟩])
  (.seq (.reg [
    .ev ⟨(some 56), .fld 1, [.tmp 9], none⟩,
    .ev ⟨(some 57), .load1, [.tmp 56], none⟩,
    .ev ⟨(some 58), .mv, [.tmp 11], none⟩,
    .ev ⟨(some 59), .bin .mul .no, [.tmp 57, .tmp 58], none⟩,
    .ev ⟨(some 60), .mv, [.tmp 7], none⟩,
    .ev ⟨(some 61), .bin .mul .no, [.tmp 59, .tmp 60], none⟩,
    .ev ⟨(some 62), .fld 1, [.tmp 10], none⟩,
    .ev ⟨(some 63), .load1, [.tmp 62], none⟩,
    .ev ⟨(some 64), .fld 1, [.tmp 9], none⟩,
    .ev ⟨(some 65), .load1, [.tmp 64], none⟩,
    .ev ⟨(some 66), .bin .sub .no, [.tmp 63, .tmp 65], none⟩,
    .ev ⟨(some 67), .mv, [.tmp 12], none⟩,
    .ev ⟨(some 68), .bin .mul .no, [.tmp 66, .tmp 67], none⟩,
    .ev ⟨(some 69), .bin .add .no, [.tmp 61, .tmp 68], none⟩,
    .ev ⟨(some 70), .mv, [.tmp 11], none⟩,
    .ev ⟨(some 71), .mv, [.tmp 7], none⟩,
    .ev ⟨(some 72), .bin .mul .no, [.tmp 70, .tmp 71], none⟩,
    .ev ⟨(some 73), .build [(.int .i64 0), (.int .i64 0)] [(0, 1), (1, 1)], [.tmp 69, .tmp 72], none⟩,
    .ev ⟨none, .store 2, [.tmp 6, .tmp 73], none⟩])
  (.ret))))))))
theorem fl12 : flatC Try.prog Try.f12.ntmps (Try.f12.body.getD .skip) = some c12 := by kernel_rfl
theorem rs12 : allSome (Try.f12.results.toList.map (flatRes Try.prog)) = some [.many 6 2] := by kernel_rfl
theorem nm12 : (Try.f12.name == "runtime.NumGoroutine") = false := by kernel_rfl
theorem nt12 : Try.f12.ntmps = 74 := by kernel_rfl
theorem gd12 : GoodF Try.prog 12 74 c12 [.many 6 2] := ⟨Try.f12, _, Try.func12, rfl, nm12, nt12, fl12, rs12⟩

/- pencilworks/pencilworksref02.Up; parameters: 1; captured: 0 -/
def c13 : AC := .seq (.reg [
    .ev ⟨(some 1), .box, [.tmp 0], none⟩,
    .ev ⟨(some 2), .mv, [.const (.int .i64 0)], none⟩])
  (.seq (.reg [
    .ev ⟨(some 3), .fld 0, [.tmp 1], none⟩,
    .ev ⟨(some 4), .load1, [.tmp 3], none⟩,
    .ev ⟨(some 5), .fld 1, [.tmp 1], none⟩,
    .ev ⟨(some 6), .load1, [.tmp 5], none⟩,
    .ev ⟨(some 7), .bin .add .no, [.tmp 4, .tmp 6], none⟩,
    .ev ⟨(some 8), .bin .sub .no, [.tmp 7, .const (.int .i64 1)], none⟩,
    .ev ⟨(some 9), .fld 1, [.tmp 1], none⟩,
    .ev ⟨(some 10), .load1, [.tmp 9], none⟩,
    .ev ⟨(some 11), .bin .quo .no, [.tmp 8, .tmp 10], none⟩,
    .ev ⟨(some 2), .mv, [.tmp 11], none⟩])
  (.ret))
theorem fl13 : flatC Try.prog Try.f13.ntmps (Try.f13.body.getD .skip) = some c13 := by kernel_rfl
theorem rs13 : allSome (Try.f13.results.toList.map (flatRes Try.prog)) = some [.tmp 2] := by kernel_rfl
theorem nm13 : (Try.f13.name == "runtime.NumGoroutine") = false := by kernel_rfl
theorem nt13 : Try.f13.ntmps = 12 := by kernel_rfl
theorem gd13 : GoodF Try.prog 13 12 c13 [.tmp 2] := ⟨Try.f13, _, Try.func13, rfl, nm13, nt13, fl13, rs13⟩

/- pencilworks/pencilworksref02.Down; parameters: 1; captured: 0 -/
def c14 : AC := .seq (.reg [
    .ev ⟨(some 1), .box, [.tmp 0], none⟩,
    .ev ⟨(some 2), .mv, [.const (.int .i64 0)], none⟩])
  (.seq (.reg [
    .ev ⟨(some 3), .fld 0, [.tmp 1], none⟩,
    .ev ⟨(some 4), .load1, [.tmp 3], none⟩,
    .ev ⟨(some 5), .fld 1, [.tmp 1], none⟩,
    .ev ⟨(some 6), .load1, [.tmp 5], none⟩,
    .ev ⟨(some 7), .bin .quo .no, [.tmp 4, .tmp 6], none⟩,
    .ev ⟨(some 2), .mv, [.tmp 7], none⟩])
  (.ret))
theorem fl14 : flatC Try.prog Try.f14.ntmps (Try.f14.body.getD .skip) = some c14 := by kernel_rfl
theorem rs14 : allSome (Try.f14.results.toList.map (flatRes Try.prog)) = some [.tmp 2] := by kernel_rfl
theorem nm14 : (Try.f14.name == "runtime.NumGoroutine") = false := by kernel_rfl
theorem nt14 : Try.f14.ntmps = 8 := by kernel_rfl
theorem gd14 : GoodF Try.prog 14 8 c14 [.tmp 2] := ⟨Try.f14, _, Try.func14, rfl, nm14, nt14, fl14, rs14⟩

/- pencilworks/pencilworksref01.span; parameters: 3; captured: 0 -/
def c15 : AC := .seq (.reg [
    .ev ⟨(some 3), .box, [.tmp 0], none⟩,
    .ev ⟨(some 6), .mv, [.const (.bool false)], none⟩])
  (.seq (.reg [
    .ev ⟨(some 7), .mv, [.tmp 1], none⟩,
    .ev ⟨(some 8), .fld 0, [.tmp 3], none⟩,
    .ev ⟨(some 9), .load1, [.tmp 8], none⟩,
    .ev ⟨(some 10), .bin .leq .no, [.tmp 7, .tmp 9], none⟩,
    .ev ⟨(some 11), .mv, [.tmp 10], none⟩,
    .ev ⟨(some 12), .fld 0, [.tmp 3], some (11, true)⟩,
    .ev ⟨(some 13), .load1, [.tmp 12], some (11, true)⟩,
    .ev ⟨(some 14), .fld 1, [.tmp 3], some (11, true)⟩,
    .ev ⟨(some 15), .load1, [.tmp 14], some (11, true)⟩,
    .ev ⟨(some 16), .bin .leq .no, [.tmp 13, .tmp 15], some (11, true)⟩,
    .ev ⟨(some 17), .pick, [.tmp 11, .tmp 16, .const (.bool false)], none⟩,
    .ev ⟨(some 18), .mv, [.tmp 17], none⟩,
    .ev ⟨(some 19), .fld 1, [.tmp 3], some (18, true)⟩,
    .ev ⟨(some 20), .load1, [.tmp 19], some (18, true)⟩,
    .ev ⟨(some 21), .mv, [.tmp 2], some (18, true)⟩,
    .ev ⟨(some 22), .bin .leq .no, [.tmp 20, .tmp 21], some (18, true)⟩,
    .ev ⟨(some 23), .pick, [.tmp 18, .tmp 22, .const (.bool false)], none⟩,
    .ev ⟨(some 6), .mv, [.tmp 23], none⟩])
  (.ret))
theorem fl15 : flatC Try.prog Try.f15.ntmps (Try.f15.body.getD .skip) = some c15 := by kernel_rfl
theorem rs15 : allSome (Try.f15.results.toList.map (flatRes Try.prog)) = some [.tmp 6] := by kernel_rfl
theorem nm15 : (Try.f15.name == "runtime.NumGoroutine") = false := by kernel_rfl
theorem nt15 : Try.f15.ntmps = 24 := by kernel_rfl
theorem gd15 : GoodF Try.prog 15 24 c15 [.tmp 6] := ⟨Try.f15, _, Try.func15, rfl, nm15, nt15, fl15, rs15⟩

/- pencilworks/pencilworksref01.in; parameters: 3; captured: 0 -/
def c16 : AC := .seq (.reg [
    .ev ⟨(some 6), .mv, [.const (.bool false)], none⟩])
  (.seq (.reg [
    .ev ⟨(some 7), .mv, [.tmp 1], none⟩,
    .ev ⟨(some 8), .mv, [.tmp 0], none⟩,
    .ev ⟨(some 9), .bin .leq .no, [.tmp 7, .tmp 8], none⟩,
    .ev ⟨(some 10), .mv, [.tmp 9], none⟩,
    .ev ⟨(some 11), .mv, [.tmp 0], some (10, true)⟩,
    .ev ⟨(some 12), .mv, [.tmp 2], some (10, true)⟩,
    .ev ⟨(some 13), .bin .leq .no, [.tmp 11, .tmp 12], some (10, true)⟩,
    .ev ⟨(some 14), .pick, [.tmp 10, .tmp 13, .const (.bool false)], none⟩,
    .ev ⟨(some 6), .mv, [.tmp 14], none⟩])
  (.ret))
theorem fl16 : flatC Try.prog Try.f16.ntmps (Try.f16.body.getD .skip) = some c16 := by kernel_rfl
theorem rs16 : allSome (Try.f16.results.toList.map (flatRes Try.prog)) = some [.tmp 6] := by kernel_rfl
theorem nm16 : (Try.f16.name == "runtime.NumGoroutine") = false := by kernel_rfl
theorem nt16 : Try.f16.ntmps = 15 := by kernel_rfl
theorem gd16 : GoodF Try.prog 16 15 c16 [.tmp 6] := ⟨Try.f16, _, Try.func16, rfl, nm16, nt16, fl16, rs16⟩

/- pencilworks/pencilworksref02.in; parameters: 3; captured: 0 -/
def c17 : AC := .seq (.reg [
    .ev ⟨(some 6), .mv, [.const (.bool false)], none⟩])
  (.seq (.reg [
    .ev ⟨(some 7), .mv, [.tmp 1], none⟩,
    .ev ⟨(some 8), .mv, [.tmp 0], none⟩,
    .ev ⟨(some 9), .bin .leq .no, [.tmp 7, .tmp 8], none⟩,
    .ev ⟨(some 10), .mv, [.tmp 9], none⟩,
    .ev ⟨(some 11), .mv, [.tmp 0], some (10, true)⟩,
    .ev ⟨(some 12), .mv, [.tmp 2], some (10, true)⟩,
    .ev ⟨(some 13), .bin .leq .no, [.tmp 11, .tmp 12], some (10, true)⟩,
    .ev ⟨(some 14), .pick, [.tmp 10, .tmp 13, .const (.bool false)], none⟩,
    .ev ⟨(some 6), .mv, [.tmp 14], none⟩])
  (.ret))
theorem fl17 : flatC Try.prog Try.f17.ntmps (Try.f17.body.getD .skip) = some c17 := by kernel_rfl
theorem rs17 : allSome (Try.f17.results.toList.map (flatRes Try.prog)) = some [.tmp 6] := by kernel_rfl
theorem nm17 : (Try.f17.name == "runtime.NumGoroutine") = false := by kernel_rfl
theorem nt17 : Try.f17.ntmps = 15 := by kernel_rfl
theorem gd17 : GoodF Try.prog 17 15 c17 [.tmp 6] := ⟨Try.f17, _, Try.func17, rfl, nm17, nt17, fl17, rs17⟩

/- pencilworks/sack.areSacks; parameters: 1; captured: 0 -/
def c18 : AC := .seq (.reg [
    .ev ⟨(some 2), .mv, [.const (.bool false)], none⟩])
  (.seq (.reg [
    .ev ⟨(some 3), .mv, [.func 34], none⟩])
  (.seq (.reg [
    .ev ⟨(some 4), .mv, [.tmp 0], none⟩,
    .ev ⟨(some 5), .len, [.tmp 4], none⟩,
    .ev ⟨(some 6), .bin .leq .no, [.tmp 5, .const (.int .i64 8)], none⟩,
    .ev ⟨(some 7), .mv, [.tmp 6], none⟩,
    .ev ⟨(some 8), .mv, [.tmp 0], some (7, true)⟩,
    .ev ⟨(some 9), .mv, [.tmp 3], some (7, true)⟩,
    .ev ⟨(some 10), .call 36, [.tmp 8, .tmp 9], some (7, true)⟩,
    .ev ⟨(some 11), .un .not, [.tmp 10], some (7, true)⟩,
    .ev ⟨(some 12), .pick, [.tmp 7, .tmp 11, .const (.bool false)], none⟩,
    .ev ⟨(some 2), .mv, [.tmp 12], none⟩])
  (.ret)))
theorem fl18 : flatC Try.prog Try.f18.ntmps (Try.f18.body.getD .skip) = some c18 := by kernel_rfl
theorem rs18 : allSome (Try.f18.results.toList.map (flatRes Try.prog)) = some [.tmp 2] := by kernel_rfl
theorem nm18 : (Try.f18.name == "runtime.NumGoroutine") = false := by kernel_rfl
theorem nt18 : Try.f18.ntmps = 13 := by kernel_rfl
theorem gd18 : GoodF Try.prog 18 13 c18 [.tmp 2] := ⟨Try.f18, _, Try.func18, rfl, nm18, nt18, fl18, rs18⟩

/- pencilworks/sack.isBatch; parameters: 2; captured: 0 -/
def c19 : AC := .seq (.reg [
    .ev ⟨(some 2), .box, [.tmp 0], none⟩,
    .ev ⟨(some 4), .mv, [.const (.bool false)], none⟩])
  (.seq (.reg [
    .ev ⟨(some 6), .mkF (.func 37) 0, [.tmp 2], none⟩,
    .ev ⟨(some 5), .mv, [.tmp 6], none⟩])
  (.seq (.reg [
    .ev ⟨(some 7), .mv, [.tmp 1], none⟩,
    .ev ⟨(some 8), .len, [.tmp 7], none⟩,
    .ev ⟨(some 9), .call 38, [.tmp 8, .const (.int .i64 1), .const (.int .i64 8)], none⟩,
    .ev ⟨(some 10), .mv, [.tmp 9], none⟩,
    .ev ⟨(some 11), .mv, [.tmp 1], some (10, true)⟩,
    .ev ⟨(some 12), .mv, [.tmp 5], some (10, true)⟩,
    .ev ⟨(some 13), .call 39, [.tmp 11, .tmp 12], some (10, true)⟩,
    .ev ⟨(some 14), .un .not, [.tmp 13], some (10, true)⟩,
    .ev ⟨(some 15), .pick, [.tmp 10, .tmp 14, .const (.bool false)], none⟩,
    .ev ⟨(some 4), .mv, [.tmp 15], none⟩])
  (.ret)))
theorem fl19 : flatC Try.prog Try.f19.ntmps (Try.f19.body.getD .skip) = some c19 := by kernel_rfl
theorem rs19 : allSome (Try.f19.results.toList.map (flatRes Try.prog)) = some [.tmp 4] := by kernel_rfl
theorem nm19 : (Try.f19.name == "runtime.NumGoroutine") = false := by kernel_rfl
theorem nt19 : Try.f19.ntmps = 16 := by kernel_rfl
theorem gd19 : GoodF Try.prog 19 16 c19 [.tmp 4] := ⟨Try.f19, _, Try.func19, rfl, nm19, nt19, fl19, rs19⟩

/- pencilworks/sack.newBatch; parameters: 2; captured: 0 -/
def c20 : AC := .seq (.reg [
    .ev ⟨(some 4), .mv, [.const (.map none)], none⟩])
  (.seq (.reg [
    .ev ⟨(some 9), .mkMap, [], none⟩,
    .ev ⟨(some 5), .mv, [.tmp 9], none⟩])
  (.seq (.seq (.reg [
    .ev ⟨(some 10), .mv, [.tmp 1], none⟩,
    .ev ⟨(some 11), .len, [.tmp 10], none⟩,
    .ev ⟨(some 12), .mv, [.const (.int .i64 0)], none⟩])
  (.block 0 (.loop (.seq (.reg [
        .ev ⟨(some 13), .bin .lss .no, [.tmp 12, .tmp 11], none⟩])
      (.seq (.cond (.tmp 13)
       (.skip)
       (.exit 0))
      (.seq (.block 1 (.seq (.reg [
          .ev ⟨(some 14), .ixS 3, [.tmp 10, .tmp 12], none⟩,
          .ev ⟨(some 15), .loadN 3, [.tmp 14], none⟩,
          .ev ⟨(some 7), .alloc [(.int .i64 0), (.int .i64 0), (.int .i64 0)], [], none⟩,
          .ev ⟨none, .store 3, [.tmp 7, .tmp 15], none⟩])
        (.seq (.reg [
          .ev ⟨(some 16), .mv, [.tmp 5], none⟩,
          .ev ⟨(some 17), .fld 0, [.tmp 7], none⟩,
          .ev ⟨(some 18), .load1, [.tmp 17], none⟩,
          .ev ⟨(some 19), .lookup (.agg #[(.int .i64 0), (.int .i64 0), (.int .i64 0), (.int .i64 0), (.int .i64 0), (.int .i64 0), (.int .i64 0), (.int .i64 0)]) false true, [.tmp 16, .tmp 18], none⟩,
          .ev ⟨(some 8), .alloc [(.int .i64 0), (.int .i64 0), (.int .i64 0), (.int .i64 0), (.int .i64 0), (.int .i64 0), (.int .i64 0), (.int .i64 0)], [], none⟩,
          .ev ⟨none, .store 8, [.tmp 8, .tmp 19], none⟩])
        (.seq (.reg [
          .ev ⟨(some 20), .mv, [.tmp 0], none⟩,
          .ev ⟨(some 21), .fld 0, [.tmp 7], none⟩,
          .ev ⟨(some 22), .load1, [.tmp 21], none⟩,
          .ev ⟨(some 23), .ixS 6, [.tmp 20, .tmp 22], none⟩,
          .ev ⟨(some 24), .loadN 6, [.tmp 23], none⟩,
          .ev ⟨(some 25), .fld 0, [.tmp 8], none⟩,
          .ev ⟨none, .store 6, [.tmp 25, .tmp 24], none⟩])
        (.seq (.reg [
          .ev ⟨(some 26), .fld 6, [.tmp 8], none⟩,
          .ev ⟨(some 27), .fld 0, [.tmp 26], none⟩,
          .ev ⟨(some 28), .load1, [.tmp 27], none⟩,
          .ev ⟨(some 29), .fld 1, [.tmp 7], none⟩,
          .ev ⟨(some 30), .fld 0, [.tmp 29], none⟩,
          .ev ⟨(some 31), .load1, [.tmp 30], none⟩,
          .ev ⟨(some 32), .bin .add .no, [.tmp 28, .tmp 31], none⟩,
          .ev ⟨(some 33), .fld 6, [.tmp 8], none⟩,
          .ev ⟨(some 34), .fld 1, [.tmp 33], none⟩,
          .ev ⟨(some 35), .load1, [.tmp 34], none⟩,
          .ev ⟨(some 36), .fld 1, [.tmp 7], none⟩,
          .ev ⟨(some 37), .fld 1, [.tmp 36], none⟩,
          .ev ⟨(some 38), .load1, [.tmp 37], none⟩,
          .ev ⟨(some 39), .bin .add .no, [.tmp 35, .tmp 38], none⟩,
          .ev ⟨(some 40), .build [(.int .i64 0), (.int .i64 0)] [(0, 1), (1, 1)], [.tmp 32, .tmp 39], none⟩,
          .ev ⟨(some 41), .fld 6, [.tmp 8], none⟩,
          .ev ⟨none, .store 2, [.tmp 41, .tmp 40], none⟩])
        (.reg [
          .ev ⟨(some 42), .mv, [.tmp 5], none⟩,
          .ev ⟨(some 43), .fld 0, [.tmp 7], none⟩,
          .ev ⟨(some 44), .load1, [.tmp 43], none⟩,
          .ev ⟨(some 45), .loadN 8, [.tmp 8], none⟩,
          .ev ⟨none, .mapUpd true, [.tmp 42, .tmp 44, .tmp 45], none⟩]))))))
      (.reg [
        .ev ⟨(some 46), .bin .add .no, [.tmp 12, .const (.int .i64 1)], none⟩,
        .ev ⟨(some 12), .mv, [.tmp 46], none⟩])))))))
  (.seq (.reg [
    .ev ⟨(some 47), .mv, [.tmp 5], none⟩,
    .ev ⟨(some 4), .mv, [.tmp 47], none⟩])
  (.ret))))
theorem fl20 : flatC Try.prog Try.f20.ntmps (Try.f20.body.getD .skip) = some c20 := by kernel_rfl
theorem rs20 : allSome (Try.f20.results.toList.map (flatRes Try.prog)) = some [.tmp 4] := by kernel_rfl
theorem nm20 : (Try.f20.name == "runtime.NumGoroutine") = false := by kernel_rfl
theorem nt20 : Try.f20.ntmps = 48 := by kernel_rfl
theorem gd20 : GoodF Try.prog 20 48 c20 [.tmp 4] := ⟨Try.f20, _, Try.func20, rfl, nm20, nt20, fl20, rs20⟩

/- (pencilworks/sack.state).drops; parameters: 1; captured: 0 -/
def c21 : AC := .seq (.reg [
    .ev ⟨(some 1), .box, [.tmp 0], none⟩,
    .ev ⟨(some 2), .mv, [.const (.int .i64 0)], none⟩])
  (.seq (.reg [
    .ev ⟨(some 3), .fld 0, [.tmp 1], none⟩,
    .ev ⟨(some 4), .load1, [.tmp 3], none⟩,
    .ev ⟨(some 5), .bin .mul .no, [.tmp 4, .const (.int .i64 1000)], none⟩,
    .ev ⟨(some 6), .bin .mul .no, [.tmp 5, .const (.int .i64 1000)], none⟩,
    .ev ⟨(some 2), .mv, [.tmp 6], none⟩])
  (.ret))
theorem fl21 : flatC Try.prog Try.f21.ntmps (Try.f21.body.getD .skip) = some c21 := by kernel_rfl
theorem rs21 : allSome (Try.f21.results.toList.map (flatRes Try.prog)) = some [.tmp 2] := by kernel_rfl
theorem nm21 : (Try.f21.name == "runtime.NumGoroutine") = false := by kernel_rfl
theorem nt21 : Try.f21.ntmps = 7 := by kernel_rfl
theorem gd21 : GoodF Try.prog 21 7 c21 [.tmp 2] := ⟨Try.f21, _, Try.func21, rfl, nm21, nt21, fl21, rs21⟩

/- (pencilworks/sack.state).coal; parameters: 1; captured: 0 -/
def c22 : AC := .seq (.reg [
    .ev ⟨(some 1), .box, [.tmp 0], none⟩,
    .ev ⟨(some 2), .mv, [.const (.int .i64 0)], none⟩])
  (.seq (.reg [
    .ev ⟨(some 3), .loadN 3, [.tmp 1], none⟩,
    .ev ⟨(some 5), .fld 1, [.tmp 1], none⟩,
    .ev ⟨(some 6), .load1, [.tmp 5], none⟩,
    .ev ⟨(some 4), .call 40, [.tmp 3], none⟩,
    .again ⟨(some 6), .load1, [.tmp 5], none⟩,
    .ev ⟨(some 7), .bin .mul .no, [.tmp 4, .tmp 6], none⟩,
    .ev ⟨(some 8), .bin .mul .no, [.tmp 7, .const (.int .i64 1000)], none⟩,
    .ev ⟨(some 2), .mv, [.tmp 8], none⟩])
  (.ret))
theorem fl22 : flatC Try.prog Try.f22.ntmps (Try.f22.body.getD .skip) = some c22 := by kernel_rfl
theorem rs22 : allSome (Try.f22.results.toList.map (flatRes Try.prog)) = some [.tmp 2] := by kernel_rfl
theorem nm22 : (Try.f22.name == "runtime.NumGoroutine") = false := by kernel_rfl
theorem nt22 : Try.f22.ntmps = 9 := by kernel_rfl
theorem gd22 : GoodF Try.prog 22 9 c22 [.tmp 2] := ⟨Try.f22, _, Try.func22, rfl, nm22, nt22, fl22, rs22⟩

/- (pencilworks/sack.state).smoke; parameters: 1; captured: 0 -/
def c23 : AC := .seq (.reg [
    .ev ⟨(some 1), .box, [.tmp 0], none⟩,
    .ev ⟨(some 2), .mv, [.const (.int .i64 0)], none⟩])
  (.seq (.reg [
    .ev ⟨(some 3), .loadN 3, [.tmp 1], none⟩,
    .ev ⟨(some 5), .fld 1, [.tmp 1], none⟩,
    .ev ⟨(some 6), .load1, [.tmp 5], none⟩,
    .ev ⟨(some 7), .bin .sub .no, [.const (.int .i64 1000), .tmp 6], none⟩,
    .ev ⟨(some 9), .fld 2, [.tmp 1], none⟩,
    .ev ⟨(some 10), .load1, [.tmp 9], none⟩,
    .ev ⟨(some 4), .call 40, [.tmp 3], none⟩,
    .again ⟨(some 6), .load1, [.tmp 5], none⟩,
    .again ⟨(some 10), .load1, [.tmp 9], none⟩,
    .ev ⟨(some 8), .bin .mul .no, [.tmp 4, .tmp 7], none⟩,
    .ev ⟨(some 11), .bin .mul .no, [.tmp 8, .tmp 10], none⟩,
    .ev ⟨(some 2), .mv, [.tmp 11], none⟩])
  (.ret))
theorem fl23 : flatC Try.prog Try.f23.ntmps (Try.f23.body.getD .skip) = some c23 := by kernel_rfl
theorem rs23 : allSome (Try.f23.results.toList.map (flatRes Try.prog)) = some [.tmp 2] := by kernel_rfl
theorem nm23 : (Try.f23.name == "runtime.NumGoroutine") = false := by kernel_rfl
theorem nt23 : Try.f23.ntmps = 12 := by kernel_rfl
theorem gd23 : GoodF Try.prog 23 12 c23 [.tmp 2] := ⟨Try.f23, _, Try.func23, rfl, nm23, nt23, fl23, rs23⟩

/- (pencilworks/sack.state).baked; parameters: 1; captured: 0 -/
def c24 : AC := .seq (.reg [
    .ev ⟨(some 1), .box, [.tmp 0], none⟩,
    .ev ⟨(some 2), .mv, [.const (.int .i64 0)], none⟩])
  (.seq (.reg [
    .ev ⟨(some 3), .loadN 3, [.tmp 1], none⟩,
    .ev ⟨(some 5), .fld 1, [.tmp 1], none⟩,
    .ev ⟨(some 6), .load1, [.tmp 5], none⟩,
    .ev ⟨(some 7), .bin .sub .no, [.const (.int .i64 1000), .tmp 6], none⟩,
    .ev ⟨(some 9), .fld 2, [.tmp 1], none⟩,
    .ev ⟨(some 10), .load1, [.tmp 9], none⟩,
    .ev ⟨(some 11), .bin .sub .no, [.const (.int .i64 1000), .tmp 10], none⟩,
    .ev ⟨(some 4), .call 40, [.tmp 3], none⟩,
    .again ⟨(some 6), .load1, [.tmp 5], none⟩,
    .again ⟨(some 10), .load1, [.tmp 9], none⟩,
    .ev ⟨(some 8), .bin .mul .no, [.tmp 4, .tmp 7], none⟩,
    .ev ⟨(some 12), .bin .mul .no, [.tmp 8, .tmp 11], none⟩,
    .ev ⟨(some 2), .mv, [.tmp 12], none⟩])
  (.ret))
theorem fl24 : flatC Try.prog Try.f24.ntmps (Try.f24.body.getD .skip) = some c24 := by kernel_rfl
theorem rs24 : allSome (Try.f24.results.toList.map (flatRes Try.prog)) = some [.tmp 2] := by kernel_rfl
theorem nm24 : (Try.f24.name == "runtime.NumGoroutine") = false := by kernel_rfl
theorem nt24 : Try.f24.ntmps = 13 := by kernel_rfl
theorem gd24 : GoodF Try.prog 24 13 c24 [.tmp 2] := ⟨Try.f24, _, Try.func24, rfl, nm24, nt24, fl24, rs24⟩

/- (pencilworks/sack.state).lead; parameters: 1; captured: 0 -/
def c25 : AC := .seq (.reg [
    .ev ⟨(some 1), .box, [.tmp 0], none⟩,
    .ev ⟨(some 2), .mv, [.const (.int .i64 0)], none⟩])
  (.seq (.reg [
    .ev ⟨(some 3), .loadN 3, [.tmp 1], none⟩,
    .ev ⟨(some 5), .loadN 3, [.tmp 1], none⟩,
    .ev ⟨(some 4), .call 22, [.tmp 3], none⟩,
    .again ⟨(some 5), .loadN 3, [.tmp 1], none⟩,
    .ev ⟨(some 6), .call 24, [.tmp 5], none⟩,
    .ev ⟨(some 7), .bin .add .no, [.tmp 4, .tmp 6], none⟩,
    .ev ⟨(some 2), .mv, [.tmp 7], none⟩])
  (.ret))
theorem fl25 : flatC Try.prog Try.f25.ntmps (Try.f25.body.getD .skip) = some c25 := by kernel_rfl
theorem rs25 : allSome (Try.f25.results.toList.map (flatRes Try.prog)) = some [.tmp 2] := by kernel_rfl
theorem nm25 : (Try.f25.name == "runtime.NumGoroutine") = false := by kernel_rfl
theorem nt25 : Try.f25.ntmps = 8 := by kernel_rfl
theorem gd25 : GoodF Try.prog 25 8 c25 [.tmp 2] := ⟨Try.f25, _, Try.func25, rfl, nm25, nt25, fl25, rs25⟩

/- (pencilworks/sack.batch).sum; parameters: 2; captured: 0 -/
def c26 : AC := .seq (.reg [
    .ev ⟨(some 4), .alloc [(.int .i64 0), (.int .i64 0)], [], none⟩])
  (.seq (.seq (.reg [
    .ev ⟨(some 9), .mv, [.tmp 0], none⟩,
    .ev ⟨(some 10), .rangeM, [.tmp 9], none⟩])
  (.block 0 (.loop (.seq (.reg [
        .ev ⟨(some 11), .next, [.tmp 10], none⟩,
        .ev ⟨(some 12), .ext 0, [.tmp 11], none⟩])
      (.seq (.cond (.tmp 12)
       (.skip)
       (.exit 0))
      (.block 1 (.seq (.reg [
          .ev ⟨(some 13), .entry, [.tmp 10], none⟩,
          .ev ⟨(some 14), .ext 1, [.tmp 13], none⟩,
          .ev ⟨(some 6), .alloc [(.int .i64 0), (.int .i64 0), (.int .i64 0), (.int .i64 0), (.int .i64 0), (.int .i64 0), (.int .i64 0), (.int .i64 0)], [], none⟩,
          .ev ⟨none, .store 8, [.tmp 6, .tmp 14], none⟩])
        (.seq (.reg [
          .ev ⟨(some 15), .loadN 8, [.tmp 6], none⟩,
          .ev ⟨(some 16), .mkF (.func 41) 1, [.tmp 15], none⟩,
          .ev ⟨(some 7), .mv, [.tmp 16], none⟩])
        (.seq (.reg [
          .ev ⟨(some 17), .mv, [.tmp 7], none⟩,
          .ev ⟨(some 18), .mv, [.tmp 1], none⟩,
          .ev ⟨(some 19), .callv, [.tmp 17, .tmp 18], none⟩,
          .ev ⟨(some 8), .alloc [(.int .i64 0), (.int .i64 0)], [], none⟩,
          .ev ⟨none, .store 2, [.tmp 8, .tmp 19], none⟩])
        (.reg [
          .ev ⟨(some 20), .fld 0, [.tmp 4], none⟩,
          .ev ⟨(some 21), .load1, [.tmp 20], none⟩,
          .ev ⟨(some 22), .fld 0, [.tmp 8], none⟩,
          .ev ⟨(some 23), .load1, [.tmp 22], none⟩,
          .ev ⟨(some 24), .bin .add .no, [.tmp 21, .tmp 23], none⟩,
          .ev ⟨(some 25), .fld 1, [.tmp 4], none⟩,
          .ev ⟨(some 26), .load1, [.tmp 25], none⟩,
          .ev ⟨(some 27), .fld 1, [.tmp 8], none⟩,
          .ev ⟨(some 28), .load1, [.tmp 27], none⟩,
          .ev ⟨(some 29), .bin .add .no, [.tmp 26, .tmp 28], none⟩,
          .ev ⟨(some 30), .build [(.int .i64 0), (.int .i64 0)] [(0, 1), (1, 1)], [.tmp 24, .tmp 29], none⟩,
          .ev ⟨none, .store 2, [.tmp 4, .tmp 30], none⟩]))))))))))
  (.seq (.reg [
    .ev ⟨(some 31), .loadN 2, [.tmp 4], none⟩,
    .ev ⟨none, .store 2, [.tmp 4, .tmp 31], none⟩])
  (.ret)))
theorem fl26 : flatC Try.prog Try.f26.ntmps (Try.f26.body.getD .skip) = some c26 := by kernel_rfl
theorem rs26 : allSome (Try.f26.results.toList.map (flatRes Try.prog)) = some [.many 4 2] := by kernel_rfl
theorem nm26 : (Try.f26.name == "runtime.NumGoroutine") = false := by kernel_rfl
theorem nt26 : Try.f26.ntmps = 32 := by kernel_rfl
theorem gd26 : GoodF Try.prog 26 32 c26 [.many 4 2] := ⟨Try.f26, _, Try.func26, rfl, nm26, nt26, fl26, rs26⟩

/- pencilworks/sack.down[int]; parameters: 2; captured: 0 -/
def c27 : AC := .seq (.reg [
    .ev ⟨(some 4), .mv, [.const (.int .i64 0)], none⟩])
  (.seq (.reg [
    .ev ⟨(some 6), .mv, [.tmp 0], none⟩,
    .ev ⟨(some 7), .mv, [.tmp 1], none⟩,
    .ev ⟨(some 8), .bin .quo .no, [.tmp 6, .tmp 7], none⟩,
    .ev ⟨(some 5), .mv, [.tmp 8], none⟩])
  (.seq (.seq (.reg [
    .ev ⟨(some 9), .mv, [.tmp 0], none⟩,
    .ev ⟨(some 10), .mv, [.tmp 1], none⟩,
    .ev ⟨(some 11), .bin .rem .no, [.tmp 9, .tmp 10], none⟩,
    .ev ⟨(some 12), .bin .lss .no, [.tmp 11, .const (.int .i64 0)], none⟩])
  (.cond (.tmp 12)
   (.reg [
      .ev ⟨(some 13), .mv, [.tmp 5], none⟩,
      .ev ⟨(some 14), .bin .sub .no, [.tmp 13, .const (.int .i64 1)], none⟩,
      .ev ⟨(some 5), .mv, [.tmp 14], none⟩])
   (.skip)))
  (.seq (.reg [
    .ev ⟨(some 15), .mv, [.tmp 5], none⟩,
    .ev ⟨(some 4), .mv, [.tmp 15], none⟩])
  (.ret))))
theorem fl27 : flatC Try.prog Try.f27.ntmps (Try.f27.body.getD .skip) = some c27 := by kernel_rfl
theorem rs27 : allSome (Try.f27.results.toList.map (flatRes Try.prog)) = some [.tmp 4] := by kernel_rfl
theorem nm27 : (Try.f27.name == "runtime.NumGoroutine") = false := by kernel_rfl
theorem nt27 : Try.f27.ntmps = 16 := by kernel_rfl
theorem gd27 : GoodF Try.prog 27 16 c27 [.tmp 4] := ⟨Try.f27, _, Try.func27, rfl, nm27, nt27, fl27, rs27⟩

/- pencilworks/sack.up[int]; parameters: 2; captured: 0 -/
def c28 : AC := .seq (.reg [
    .ev ⟨(some 4), .mv, [.const (.int .i64 0)], none⟩])
  (.seq (.reg [
    .ev ⟨(some 5), .mv, [.tmp 0], none⟩,
    .ev ⟨(some 6), .un .neg, [.tmp 5], none⟩,
    .ev ⟨(some 7), .mv, [.tmp 1], none⟩,
    .ev ⟨(some 8), .call 27, [.tmp 6, .tmp 7], none⟩,
    .ev ⟨(some 9), .un .neg, [.tmp 8], none⟩,
    .ev ⟨(some 4), .mv, [.tmp 9], none⟩])
  (.ret))
theorem fl28 : flatC Try.prog Try.f28.ntmps (Try.f28.body.getD .skip) = some c28 := by kernel_rfl
theorem rs28 : allSome (Try.f28.results.toList.map (flatRes Try.prog)) = some [.tmp 4] := by kernel_rfl
theorem nm28 : (Try.f28.name == "runtime.NumGoroutine") = false := by kernel_rfl
theorem nt28 : Try.f28.ntmps = 10 := by kernel_rfl
theorem gd28 : GoodF Try.prog 28 10 c28 [.tmp 4] := ⟨Try.f28, _, Try.func28, rfl, nm28, nt28, fl28, rs28⟩

/- sort.Search; parameters: 2; captured: 0 -/
def c29 : AC := .seq (.reg [
    .ev ⟨(some 4), .mv, [.const (.int .i64 0)], none⟩])
  (.seq (.reg [
    .ev ⟨(some 8), .mv, [.tmp 0], none⟩,
    .ev ⟨(some 5), .mv, [.const (.int .i64 0)], none⟩,
    .ev ⟨(some 6), .mv, [.tmp 8], none⟩])
  (.seq (.block 0 (.loop (.seq (.seq (.reg [
        .ev ⟨(some 9), .mv, [.tmp 5], none⟩,
        .ev ⟨(some 10), .mv, [.tmp 6], none⟩,
        .ev ⟨(some 11), .bin .lss .no, [.tmp 9, .tmp 10], none⟩])
      (.cond (.tmp 11)
       (.skip)
       (.exit 0)))
      (.block 1 (.seq (.reg [
          .ev ⟨(some 12), .mv, [.tmp 5], none⟩,
          .ev ⟨(some 13), .mv, [.tmp 6], none⟩,
          .ev ⟨(some 14), .bin .add .no, [.tmp 12, .tmp 13], none⟩,
          .ev ⟨(some 15), .conv .u64, [.tmp 14], none⟩,
          .ev ⟨(some 16), .bin .shr .no, [.tmp 15, .const (.int .u64 1)], none⟩,
          .ev ⟨(some 17), .conv .i64, [.tmp 16], none⟩,
          .ev ⟨(some 7), .mv, [.tmp 17], none⟩])
        (.seq (.reg [
          .ev ⟨(some 18), .mv, [.tmp 1], none⟩,
          .ev ⟨(some 19), .mv, [.tmp 7], none⟩,
          .ev ⟨(some 20), .callv, [.tmp 18, .tmp 19], none⟩,
          .ev ⟨(some 21), .un .not, [.tmp 20], none⟩])
        (.cond (.tmp 21)
         (.reg [
            .ev ⟨(some 22), .mv, [.tmp 7], none⟩,
            .ev ⟨(some 23), .bin .add .no, [.tmp 22, .const (.int .i64 1)], none⟩,
            .ev ⟨(some 5), .mv, [.tmp 23], none⟩])
         (.reg [
            .ev ⟨(some 24), .mv, [.tmp 7], none⟩,
            .ev ⟨(some 6), .mv, [.tmp 24], none⟩]))))))))
  (.seq (.reg [
    .ev ⟨(some 25), .mv, [.tmp 5], none⟩,
    .ev ⟨(some 4), .mv, [.tmp 25], none⟩])
  (.ret))))
theorem fl29 : flatC Try.prog Try.f29.ntmps (Try.f29.body.getD .skip) = some c29 := by kernel_rfl
theorem rs29 : allSome (Try.f29.results.toList.map (flatRes Try.prog)) = some [.tmp 4] := by kernel_rfl
theorem nm29 : (Try.f29.name == "runtime.NumGoroutine") = false := by kernel_rfl
theorem nt29 : Try.f29.ntmps = 26 := by kernel_rfl
theorem gd29 : GoodF Try.prog 29 26 c29 [.tmp 4] := ⟨Try.f29, _, Try.func29, rfl, nm29, nt29, fl29, rs29⟩

/- pencilworks/sack.Share$1; parameters: 1; captured: 1 -/
def c30 : AC := .seq (.reg [
    .ev ⟨(some 3), .mv, [.const (.bool false)], none⟩])
  (.seq (.reg [
    .ev ⟨(some 4), .load1, [.tmp 1], none⟩,
    .ev ⟨(some 5), .mv, [.tmp 0], none⟩,
    .ev ⟨(some 6), .call 31, [.tmp 4, .tmp 5], none⟩,
    .ev ⟨(some 7), .fldV 0 none, [.tmp 6], none⟩,
    .ev ⟨(some 8), .bin .lss .no, [.tmp 7, .const (.int .i64 0)], none⟩,
    .ev ⟨(some 3), .mv, [.tmp 8], none⟩])
  (.ret))
theorem fl30 : flatC Try.prog Try.f30.ntmps (Try.f30.body.getD .skip) = some c30 := by kernel_rfl
theorem rs30 : allSome (Try.f30.results.toList.map (flatRes Try.prog)) = some [.tmp 3] := by kernel_rfl
theorem nm30 : (Try.f30.name == "runtime.NumGoroutine") = false := by kernel_rfl
theorem nt30 : Try.f30.ntmps = 9 := by kernel_rfl
theorem gd30 : GoodF Try.prog 30 9 c30 [.tmp 3] := ⟨Try.f30, _, Try.func30, rfl, nm30, nt30, fl30, rs30⟩

/- (pencilworks/sack.batch).beyond; parameters: 2; captured: 0 -/
def c31 : AC := .seq (.reg [
    .ev ⟨(some 3), .box, [.tmp 1], none⟩,
    .ev ⟨(some 4), .alloc [(.int .i64 0), (.int .i64 0)], [], none⟩])
  (.seq (.reg [
    .ev ⟨(some 5), .mv, [.tmp 0], none⟩,
    .ev ⟨(some 6), .mkF (.func 42) 0, [.tmp 3], none⟩,
    .ev ⟨(some 7), .call 26, [.tmp 5, .tmp 6], none⟩,
    .ev ⟨none, .store 2, [.tmp 4, .tmp 7], none⟩])
  (.ret))
theorem fl31 : flatC Try.prog Try.f31.ntmps (Try.f31.body.getD .skip) = some c31 := by kernel_rfl
theorem rs31 : allSome (Try.f31.results.toList.map (flatRes Try.prog)) = some [.many 4 2] := by kernel_rfl
theorem nm31 : (Try.f31.name == "runtime.NumGoroutine") = false := by kernel_rfl
theorem nt31 : Try.f31.ntmps = 8 := by kernel_rfl
theorem gd31 : GoodF Try.prog 31 8 c31 [.many 4 2] := ⟨Try.f31, _, Try.func31, rfl, nm31, nt31, fl31, rs31⟩

/- pencilworks/sack.Share$2; parameters: 1; captured: 1 -/
def c32 : AC := .seq (.reg [
    .ev ⟨(some 3), .mv, [.const (.bool false)], none⟩])
  (.seq (.reg [
    .ev ⟨(some 4), .load1, [.tmp 1], none⟩,
    .ev ⟨(some 5), .mv, [.tmp 0], none⟩,
    .ev ⟨(some 6), .call 31, [.tmp 4, .tmp 5], none⟩,
    .ev ⟨(some 7), .fldV 1 none, [.tmp 6], none⟩,
    .ev ⟨(some 8), .bin .leq .no, [.tmp 7, .const (.int .i64 0)], none⟩,
    .ev ⟨(some 3), .mv, [.tmp 8], none⟩])
  (.ret))
theorem fl32 : flatC Try.prog Try.f32.ntmps (Try.f32.body.getD .skip) = some c32 := by kernel_rfl
theorem rs32 : allSome (Try.f32.results.toList.map (flatRes Try.prog)) = some [.tmp 3] := by kernel_rfl
theorem nm32 : (Try.f32.name == "runtime.NumGoroutine") = false := by kernel_rfl
theorem nt32 : Try.f32.ntmps = 9 := by kernel_rfl
theorem gd32 : GoodF Try.prog 32 9 c32 [.tmp 3] := ⟨Try.f32, _, Try.func32, rfl, nm32, nt32, fl32, rs32⟩

/- pencilworks/shade.open; parameters: 4; captured: 0 -/
def c33 : AC := .seq (.reg [
    .ev ⟨(some 8), .mv, [.const (.slice none 0 0)], none⟩,
    .ev ⟨(some 9), .mv, [.const (.int .i64 0)], none⟩])
  (.seq (.block 0 (.seq (.reg [
      .ev ⟨(some 14), .mv, [.tmp 0], none⟩,
      .ev ⟨(some 15), .call 44, [.tmp 14], none⟩,
      .ev ⟨(some 16), .un .not, [.tmp 15], none⟩,
      .ev ⟨(some 13), .mv, [.tmp 16], none⟩])
    (.cond (.tmp 13)
     (.seq (.reg [
        .ev ⟨(some 8), .mv, [.const (.slice none 0 0)], none⟩,
        .ev ⟨(some 9), .mv, [.const (.int .i64 1)], none⟩])
      (.ret))
     (.seq (.reg [
        .ev ⟨(some 18), .mv, [.tmp 1], none⟩,
        .ev ⟨(some 19), .len, [.tmp 18], none⟩,
        .ev ⟨(some 20), .mv, [.tmp 2], none⟩,
        .ev ⟨(some 21), .bin .gtr .no, [.tmp 19, .tmp 20], none⟩,
        .ev ⟨(some 17), .mv, [.tmp 21], none⟩])
      (.cond (.tmp 17)
       (.seq (.reg [
          .ev ⟨(some 8), .mv, [.const (.slice none 0 0)], none⟩,
          .ev ⟨(some 9), .mv, [.const (.int .i64 3)], none⟩])
        (.ret))
       (.seq (.reg [
          .ev ⟨(some 23), .mv, [.tmp 3], none⟩,
          .ev ⟨(some 24), .un .not, [.tmp 23], none⟩,
          .ev ⟨(some 25), .mv, [.tmp 24], none⟩,
          .ev ⟨(some 26), .mv, [.tmp 1], some (25, false)⟩,
          .ev ⟨(some 27), .call 45, [.tmp 26, .func 46], some (25, false)⟩,
          .ev ⟨(some 28), .pick, [.tmp 25, .const (.bool true), .tmp 27], none⟩,
          .ev ⟨(some 22), .mv, [.tmp 28], none⟩])
        (.cond (.tmp 22)
         (.seq (.reg [
            .ev ⟨(some 8), .mv, [.const (.slice none 0 0)], none⟩,
            .ev ⟨(some 9), .mv, [.const (.int .i64 2)], none⟩])
          (.ret))
         (.skip))))))))
  (.seq (.seq (.reg [
    .ev ⟨(some 29), .mv, [.tmp 1], none⟩,
    .ev ⟨(some 30), .len, [.tmp 29], none⟩,
    .ev ⟨(some 31), .mv, [.const (.int .i64 0)], none⟩])
  (.block 1 (.loop (.seq (.reg [
        .ev ⟨(some 32), .bin .lss .no, [.tmp 31, .tmp 30], none⟩])
      (.seq (.cond (.tmp 32)
       (.skip)
       (.exit 1))
      (.seq (.block 2 (.seq (.reg [
          .ev ⟨(some 33), .ixS 11, [.tmp 29, .tmp 31], none⟩,
          .ev ⟨(some 34), .loadN 11, [.tmp 33], none⟩,
          .ev ⟨(some 11), .alloc [(.int .i64 0), (.int .i64 0), (.int .i64 0), (.int .i64 0), (.int .i64 0), (.slice none 0 0), (.int .i64 0), (.int .i64 0), (.int .i64 0), (.int .i64 0), (.int .i64 0)], [], none⟩,
          .ev ⟨none, .store 11, [.tmp 11, .tmp 34], none⟩])
        (.seq (.reg [
          .ev ⟨(some 35), .loadN 11, [.tmp 11], none⟩,
          .ev ⟨(some 36), .mv, [.tmp 0], none⟩,
          .ev ⟨(some 37), .loadN 11, [.tmp 11], none⟩,
          .ev ⟨(some 12), .alloc [(.int .i64 0), (.int .i64 0), (.int .i64 0), (.int .i64 0), (.int .i64 0), (.slice none 0 0), (.int .i64 0), (.int .i64 0), (.int .i64 0), (.int .i64 0), (.int .i64 0), (.int .i64 0), (.int .i64 0)], [], none⟩,
          .ev ⟨(some 38), .call 47, [.tmp 36, .tmp 37], none⟩,
          .again ⟨(some 35), .loadN 11, [.tmp 11], none⟩,
          .again ⟨(some 12), .alloc [(.int .i64 0), (.int .i64 0), (.int .i64 0), (.int .i64 0), (.int .i64 0), (.slice none 0 0), (.int .i64 0), (.int .i64 0), (.int .i64 0), (.int .i64 0), (.int .i64 0), (.int .i64 0), (.int .i64 0)], [], none⟩,
          .ev ⟨(some 39), .build [(.int .i64 0), (.int .i64 0), (.int .i64 0), (.int .i64 0), (.int .i64 0), (.slice none 0 0), (.int .i64 0), (.int .i64 0), (.int .i64 0), (.int .i64 0), (.int .i64 0), (.int .i64 0), (.int .i64 0)] [(0, 11), (11, 2)], [.tmp 35, .tmp 38], none⟩,
          .ev ⟨none, .store 13, [.tmp 12, .tmp 39], none⟩])
        (.seq (.seq (.reg [
          .ev ⟨(some 40), .fld 11, [.tmp 12], none⟩,
          .ev ⟨(some 41), .fld 0, [.tmp 40], none⟩,
          .ev ⟨(some 42), .load1, [.tmp 41], none⟩,
          .ev ⟨(some 43), .fld 11, [.tmp 12], none⟩,
          .ev ⟨(some 44), .fld 1, [.tmp 43], none⟩,
          .ev ⟨(some 45), .load1, [.tmp 44], none⟩,
          .ev ⟨(some 46), .bin .gtr .no, [.tmp 42, .tmp 45], none⟩])
        (.cond (.tmp 46)
         (.seq (.reg [
            .ev ⟨(some 8), .mv, [.const (.slice none 0 0)], none⟩,
            .ev ⟨(some 9), .mv, [.const (.int .i64 6)], none⟩])
          (.ret))
         (.skip)))
        (.reg [
          .ev ⟨(some 47), .mv, [.tmp 8], none⟩,
          .ev ⟨(some 48), .loadN 13, [.tmp 12], none⟩,
          .ev ⟨(some 49), .bslice 1 13 [(.int .i64 0), (.int .i64 0), (.int .i64 0), (.int .i64 0), (.int .i64 0), (.slice none 0 0), (.int .i64 0), (.int .i64 0), (.int .i64 0), (.int .i64 0), (.int .i64 0), (.int .i64 0), (.int .i64 0)] [(0, 13)], [.tmp 48], none⟩,
          .ev ⟨(some 50), .app 120 [(.int .i64 0), (.int .i64 0), (.int .i64 0), (.int .i64 0), (.int .i64 0), (.slice none 0 0), (.int .i64 0), (.int .i64 0), (.int .i64 0), (.int .i64 0), (.int .i64 0), (.int .i64 0), (.int .i64 0)], [.tmp 47, .tmp 49], none⟩,
          .ev ⟨(some 8), .mv, [.tmp 50], none⟩])))))
      (.reg [
        .ev ⟨(some 51), .bin .add .no, [.tmp 31, .const (.int .i64 1)], none⟩,
        .ev ⟨(some 31), .mv, [.tmp 51], none⟩])))))))
  (.seq (.reg [
    .ev ⟨(some 52), .mv, [.tmp 8], none⟩,
    .ev ⟨(some 8), .mv, [.tmp 52], none⟩,
    .ev ⟨(some 9), .mv, [.const (.int .i64 0)], none⟩])
  (.ret))))
theorem fl33 : flatC Try.prog Try.f33.ntmps (Try.f33.body.getD .skip) = some c33 := by kernel_rfl
theorem rs33 : allSome (Try.f33.results.toList.map (flatRes Try.prog)) = some [.tmp 8, .tmp 9] := by kernel_rfl
theorem nm33 : (Try.f33.name == "runtime.NumGoroutine") = false := by kernel_rfl
theorem nt33 : Try.f33.ntmps = 53 := by kernel_rfl
theorem gd33 : GoodF Try.prog 33 53 c33 [.tmp 8, .tmp 9] := ⟨Try.f33, _, Try.func33, rfl, nm33, nt33, fl33, rs33⟩

/- pencilworks/sack.areSacks$1; parameters: 1; captured: 0 -/
def c34 : AC := .seq (.reg [
    .ev ⟨(some 1), .box, [.tmp 0], none⟩,
    .ev ⟨(some 2), .mv, [.const (.bool false)], none⟩])
  (.seq (.reg [
    .ev ⟨(some 3), .fld 0, [.tmp 1], none⟩,
    .ev ⟨(some 4), .loadN 2, [.tmp 3], none⟩,
    .ev ⟨(some 5), .call 35, [.tmp 4, .const (.int .i64 0), .const (.int .i64 900)], none⟩,
    .ev ⟨(some 6), .un .not, [.tmp 5], none⟩,
    .ev ⟨(some 7), .mv, [.tmp 6], none⟩,
    .ev ⟨(some 8), .fld 2, [.tmp 1], some (7, false)⟩,
    .ev ⟨(some 9), .loadN 2, [.tmp 8], some (7, false)⟩,
    .ev ⟨(some 10), .call 35, [.tmp 9, .const (.int .i64 0), .const (.int .i64 1000)], some (7, false)⟩,
    .ev ⟨(some 11), .un .not, [.tmp 10], some (7, false)⟩,
    .ev ⟨(some 12), .pick, [.tmp 7, .const (.bool true), .tmp 11], none⟩,
    .ev ⟨(some 13), .mv, [.tmp 12], none⟩,
    .ev ⟨(some 14), .fld 4, [.tmp 1], some (13, false)⟩,
    .ev ⟨(some 15), .loadN 2, [.tmp 14], some (13, false)⟩,
    .ev ⟨(some 16), .call 35, [.tmp 15, .const (.int .i64 0), .const (.int .i64 900)], some (13, false)⟩,
    .ev ⟨(some 17), .un .not, [.tmp 16], some (13, false)⟩,
    .ev ⟨(some 18), .pick, [.tmp 13, .const (.bool true), .tmp 17], none⟩,
    .ev ⟨(some 2), .mv, [.tmp 18], none⟩])
  (.ret))
theorem fl34 : flatC Try.prog Try.f34.ntmps (Try.f34.body.getD .skip) = some c34 := by kernel_rfl
theorem rs34 : allSome (Try.f34.results.toList.map (flatRes Try.prog)) = some [.tmp 2] := by kernel_rfl
theorem nm34 : (Try.f34.name == "runtime.NumGoroutine") = false := by kernel_rfl
theorem nt34 : Try.f34.ntmps = 19 := by kernel_rfl
theorem gd34 : GoodF Try.prog 34 19 c34 [.tmp 2] := ⟨Try.f34, _, Try.func34, rfl, nm34, nt34, fl34, rs34⟩

/- pencilworks/sack.isSpan; parameters: 3; captured: 0 -/
def c35 : AC := .seq (.reg [
    .ev ⟨(some 3), .box, [.tmp 0], none⟩,
    .ev ⟨(some 6), .mv, [.const (.bool false)], none⟩])
  (.seq (.reg [
    .ev ⟨(some 7), .mv, [.tmp 1], none⟩,
    .ev ⟨(some 8), .fld 0, [.tmp 3], none⟩,
    .ev ⟨(some 9), .load1, [.tmp 8], none⟩,
    .ev ⟨(some 10), .bin .leq .no, [.tmp 7, .tmp 9], none⟩,
    .ev ⟨(some 11), .mv, [.tmp 10], none⟩,
    .ev ⟨(some 12), .fld 0, [.tmp 3], some (11, true)⟩,
    .ev ⟨(some 13), .load1, [.tmp 12], some (11, true)⟩,
    .ev ⟨(some 14), .fld 1, [.tmp 3], some (11, true)⟩,
    .ev ⟨(some 15), .load1, [.tmp 14], some (11, true)⟩,
    .ev ⟨(some 16), .bin .leq .no, [.tmp 13, .tmp 15], some (11, true)⟩,
    .ev ⟨(some 17), .pick, [.tmp 11, .tmp 16, .const (.bool false)], none⟩,
    .ev ⟨(some 18), .mv, [.tmp 17], none⟩,
    .ev ⟨(some 19), .fld 1, [.tmp 3], some (18, true)⟩,
    .ev ⟨(some 20), .load1, [.tmp 19], some (18, true)⟩,
    .ev ⟨(some 21), .mv, [.tmp 2], some (18, true)⟩,
    .ev ⟨(some 22), .bin .leq .no, [.tmp 20, .tmp 21], some (18, true)⟩,
    .ev ⟨(some 23), .pick, [.tmp 18, .tmp 22, .const (.bool false)], none⟩,
    .ev ⟨(some 6), .mv, [.tmp 23], none⟩])
  (.ret))
theorem fl35 : flatC Try.prog Try.f35.ntmps (Try.f35.body.getD .skip) = some c35 := by kernel_rfl
theorem rs35 : allSome (Try.f35.results.toList.map (flatRes Try.prog)) = some [.tmp 6] := by kernel_rfl
theorem nm35 : (Try.f35.name == "runtime.NumGoroutine") = false := by kernel_rfl
theorem nt35 : Try.f35.ntmps = 24 := by kernel_rfl
theorem gd35 : GoodF Try.prog 35 24 c35 [.tmp 6] := ⟨Try.f35, _, Try.func35, rfl, nm35, nt35, fl35, rs35⟩

/- slices.ContainsFunc[[]pencilworks/api.Sack,pencilworks/api.Sack]; parameters: 2; captured: 0 -/
def c36 : AC := .seq (.reg [
    .ev ⟨(some 4), .mv, [.const (.bool false)], none⟩])
  (.seq (.reg [
    .ev ⟨(some 5), .mv, [.tmp 0], none⟩,
    .ev ⟨(some 6), .mv, [.tmp 1], none⟩,
    .ev ⟨(some 7), .call 48, [.tmp 5, .tmp 6], none⟩,
    .ev ⟨(some 8), .bin .geq .no, [.tmp 7, .const (.int .i64 0)], none⟩,
    .ev ⟨(some 4), .mv, [.tmp 8], none⟩])
  (.ret))
theorem fl36 : flatC Try.prog Try.f36.ntmps (Try.f36.body.getD .skip) = some c36 := by kernel_rfl
theorem rs36 : allSome (Try.f36.results.toList.map (flatRes Try.prog)) = some [.tmp 4] := by kernel_rfl
theorem nm36 : (Try.f36.name == "runtime.NumGoroutine") = false := by kernel_rfl
theorem nt36 : Try.f36.ntmps = 9 := by kernel_rfl
theorem gd36 : GoodF Try.prog 36 9 c36 [.tmp 4] := ⟨Try.f36, _, Try.func36, rfl, nm36, nt36, fl36, rs36⟩

/- pencilworks/sack.isBatch$1; parameters: 1; captured: 1 -/
def c37 : AC := .seq (.reg [
    .ev ⟨(some 2), .box, [.tmp 0], none⟩,
    .ev ⟨(some 3), .mv, [.const (.bool false)], none⟩])
  (.seq (.reg [
    .ev ⟨(some 4), .fld 0, [.tmp 2], none⟩,
    .ev ⟨(some 5), .load1, [.tmp 4], none⟩,
    .ev ⟨(some 6), .load1, [.tmp 1], none⟩,
    .ev ⟨(some 7), .len, [.tmp 6], none⟩,
    .ev ⟨(some 8), .bin .sub .no, [.tmp 7, .const (.int .i64 1)], none⟩,
    .ev ⟨(some 9), .call 38, [.tmp 5, .const (.int .i64 0), .tmp 8], none⟩,
    .ev ⟨(some 10), .un .not, [.tmp 9], none⟩,
    .ev ⟨(some 11), .mv, [.tmp 10], none⟩,
    .ev ⟨(some 12), .fld 1, [.tmp 2], some (11, false)⟩,
    .ev ⟨(some 13), .loadN 2, [.tmp 12], some (11, false)⟩,
    .ev ⟨(some 14), .call 35, [.tmp 13, .const (.int .i64 1), .const (.int .i64 100000)], some (11, false)⟩,
    .ev ⟨(some 15), .un .not, [.tmp 14], some (11, false)⟩,
    .ev ⟨(some 16), .pick, [.tmp 11, .const (.bool true), .tmp 15], none⟩,
    .ev ⟨(some 3), .mv, [.tmp 16], none⟩])
  (.ret))
theorem fl37 : flatC Try.prog Try.f37.ntmps (Try.f37.body.getD .skip) = some c37 := by kernel_rfl
theorem rs37 : allSome (Try.f37.results.toList.map (flatRes Try.prog)) = some [.tmp 3] := by kernel_rfl
theorem nm37 : (Try.f37.name == "runtime.NumGoroutine") = false := by kernel_rfl
theorem nt37 : Try.f37.ntmps = 17 := by kernel_rfl
theorem gd37 : GoodF Try.prog 37 17 c37 [.tmp 3] := ⟨Try.f37, _, Try.func37, rfl, nm37, nt37, fl37, rs37⟩

/- pencilworks/sack.within; parameters: 3; captured: 0 -/
def c38 : AC := .seq (.reg [
    .ev ⟨(some 6), .mv, [.const (.bool false)], none⟩])
  (.seq (.reg [
    .ev ⟨(some 7), .mv, [.tmp 1], none⟩,
    .ev ⟨(some 8), .mv, [.tmp 0], none⟩,
    .ev ⟨(some 9), .bin .leq .no, [.tmp 7, .tmp 8], none⟩,
    .ev ⟨(some 10), .mv, [.tmp 9], none⟩,
    .ev ⟨(some 11), .mv, [.tmp 0], some (10, true)⟩,
    .ev ⟨(some 12), .mv, [.tmp 2], some (10, true)⟩,
    .ev ⟨(some 13), .bin .leq .no, [.tmp 11, .tmp 12], some (10, true)⟩,
    .ev ⟨(some 14), .pick, [.tmp 10, .tmp 13, .const (.bool false)], none⟩,
    .ev ⟨(some 6), .mv, [.tmp 14], none⟩])
  (.ret))
theorem fl38 : flatC Try.prog Try.f38.ntmps (Try.f38.body.getD .skip) = some c38 := by kernel_rfl
theorem rs38 : allSome (Try.f38.results.toList.map (flatRes Try.prog)) = some [.tmp 6] := by kernel_rfl
theorem nm38 : (Try.f38.name == "runtime.NumGoroutine") = false := by kernel_rfl
theorem nt38 : Try.f38.ntmps = 15 := by kernel_rfl
theorem gd38 : GoodF Try.prog 38 15 c38 [.tmp 6] := ⟨Try.f38, _, Try.func38, rfl, nm38, nt38, fl38, rs38⟩

/- slices.ContainsFunc[[]pencilworks/api.Take,pencilworks/api.Take]; parameters: 2; captured: 0 -/
def c39 : AC := .seq (.reg [
    .ev ⟨(some 4), .mv, [.const (.bool false)], none⟩])
  (.seq (.reg [
    .ev ⟨(some 5), .mv, [.tmp 0], none⟩,
    .ev ⟨(some 6), .mv, [.tmp 1], none⟩,
    .ev ⟨(some 7), .call 49, [.tmp 5, .tmp 6], none⟩,
    .ev ⟨(some 8), .bin .geq .no, [.tmp 7, .const (.int .i64 0)], none⟩,
    .ev ⟨(some 4), .mv, [.tmp 8], none⟩])
  (.ret))
theorem fl39 : flatC Try.prog Try.f39.ntmps (Try.f39.body.getD .skip) = some c39 := by kernel_rfl
theorem rs39 : allSome (Try.f39.results.toList.map (flatRes Try.prog)) = some [.tmp 4] := by kernel_rfl
theorem nm39 : (Try.f39.name == "runtime.NumGoroutine") = false := by kernel_rfl
theorem nt39 : Try.f39.ntmps = 9 := by kernel_rfl
theorem gd39 : GoodF Try.prog 39 9 c39 [.tmp 4] := ⟨Try.f39, _, Try.func39, rfl, nm39, nt39, fl39, rs39⟩

/- (pencilworks/sack.state).dry; parameters: 1; captured: 0 -/
def c40 : AC := .seq (.reg [
    .ev ⟨(some 1), .box, [.tmp 0], none⟩,
    .ev ⟨(some 2), .mv, [.const (.int .i64 0)], none⟩])
  (.seq (.reg [
    .ev ⟨(some 3), .fld 0, [.tmp 1], none⟩,
    .ev ⟨(some 4), .load1, [.tmp 3], none⟩,
    .ev ⟨(some 5), .bin .sub .no, [.const (.int .i64 1000), .tmp 4], none⟩,
    .ev ⟨(some 2), .mv, [.tmp 5], none⟩])
  (.ret))
theorem fl40 : flatC Try.prog Try.f40.ntmps (Try.f40.body.getD .skip) = some c40 := by kernel_rfl
theorem rs40 : allSome (Try.f40.results.toList.map (flatRes Try.prog)) = some [.tmp 2] := by kernel_rfl
theorem nm40 : (Try.f40.name == "runtime.NumGoroutine") = false := by kernel_rfl
theorem nt40 : Try.f40.ntmps = 6 := by kernel_rfl
theorem gd40 : GoodF Try.prog 40 6 c40 [.tmp 2] := ⟨Try.f40, _, Try.func40, rfl, nm40, nt40, fl40, rs40⟩

/- (pencilworks/sack.store).adds; parameters: 2; captured: 0 -/
def c41 : AC := .seq (.reg [
    .ev ⟨(some 2), .box, [.tmp 0], none⟩,
    .ev ⟨(some 3), .box, [.tmp 1], none⟩,
    .ev ⟨(some 4), .alloc [(.int .i64 0), (.int .i64 0)], [], none⟩])
  (.seq (.reg [
    .ev ⟨(some 5), .alloc [(.bool false)], [], none⟩,
    .ev ⟨none, .store 1, [.tmp 5, .const (.bool true)], none⟩])
  (.seq (.seq (.reg [
    .ev ⟨(some 10), .loadN 8, [.tmp 2], none⟩,
    .ev ⟨(some 11), .call 50, [.tmp 10], none⟩])
  (.block 0 (.rangeF (.tmp 11) [12]
     (.reg [
        .ev ⟨(some 6), .alloc [(.int .i64 0), (.int .i64 0), (.int .i64 0)], [], none⟩,
        .ev ⟨none, .store 3, [.tmp 6, .tmp 12], none⟩])
     (.block 1 (.seq (.reg [
          .ev ⟨(some 13), .load1, [.tmp 3], none⟩,
          .ev ⟨(some 14), .loadN 3, [.tmp 6], none⟩,
          .ev ⟨(some 15), .callv, [.tmp 13, .tmp 14], none⟩,
          .ev ⟨(some 7), .mv, [.tmp 15], none⟩])
        (.seq (.reg [
          .ev ⟨(some 16), .fld 6, [.tmp 2], none⟩,
          .ev ⟨(some 17), .fld 0, [.tmp 16], none⟩,
          .ev ⟨(some 18), .load1, [.tmp 17], none⟩,
          .ev ⟨(some 19), .mv, [.tmp 7], none⟩,
          .ev ⟨(some 20), .bin .mul .no, [.tmp 18, .tmp 19], none⟩,
          .ev ⟨(some 21), .fld 6, [.tmp 2], none⟩,
          .ev ⟨(some 22), .fld 1, [.tmp 21], none⟩,
          .ev ⟨(some 23), .load1, [.tmp 22], none⟩,
          .ev ⟨(some 24), .mv, [.tmp 7], none⟩,
          .ev ⟨(some 25), .bin .mul .no, [.tmp 23, .tmp 24], none⟩,
          .ev ⟨(some 26), .mm false, [.tmp 20, .tmp 25], none⟩,
          .ev ⟨(some 27), .fld 6, [.tmp 2], none⟩,
          .ev ⟨(some 28), .fld 0, [.tmp 27], none⟩,
          .ev ⟨(some 29), .load1, [.tmp 28], none⟩,
          .ev ⟨(some 30), .mv, [.tmp 7], none⟩,
          .ev ⟨(some 31), .bin .mul .no, [.tmp 29, .tmp 30], none⟩,
          .ev ⟨(some 32), .fld 6, [.tmp 2], none⟩,
          .ev ⟨(some 33), .fld 1, [.tmp 32], none⟩,
          .ev ⟨(some 34), .load1, [.tmp 33], none⟩,
          .ev ⟨(some 35), .mv, [.tmp 7], none⟩,
          .ev ⟨(some 36), .bin .mul .no, [.tmp 34, .tmp 35], none⟩,
          .ev ⟨(some 37), .mm true, [.tmp 31, .tmp 36], none⟩,
          .ev ⟨(some 8), .mv, [.tmp 26], none⟩,
          .ev ⟨(some 9), .mv, [.tmp 37], none⟩])
        (.seq (.seq (.reg [
          .ev ⟨(some 38), .load1, [.tmp 5], none⟩])
        (.cond (.tmp 38)
         (.reg [
            .ev ⟨(some 39), .mv, [.tmp 8], none⟩,
            .ev ⟨(some 40), .mv, [.tmp 9], none⟩,
            .ev ⟨(some 41), .build [(.int .i64 0), (.int .i64 0)] [(0, 1), (1, 1)], [.tmp 39, .tmp 40], none⟩,
            .ev ⟨none, .store 2, [.tmp 4, .tmp 41], none⟩,
            .ev ⟨none, .store 1, [.tmp 5, .const (.bool false)], none⟩])
         (.skip)))
        (.reg [
          .ev ⟨(some 42), .fld 0, [.tmp 4], none⟩,
          .ev ⟨(some 43), .load1, [.tmp 42], none⟩,
          .ev ⟨(some 44), .mv, [.tmp 8], none⟩,
          .ev ⟨(some 45), .mm false, [.tmp 43, .tmp 44], none⟩,
          .ev ⟨(some 46), .fld 1, [.tmp 4], none⟩,
          .ev ⟨(some 47), .load1, [.tmp 46], none⟩,
          .ev ⟨(some 48), .mv, [.tmp 9], none⟩,
          .ev ⟨(some 49), .mm true, [.tmp 47, .tmp 48], none⟩,
          .ev ⟨(some 50), .build [(.int .i64 0), (.int .i64 0)] [(0, 1), (1, 1)], [.tmp 45, .tmp 49], none⟩,
          .ev ⟨none, .store 2, [.tmp 4, .tmp 50], none⟩]))))))))
  (.seq (.reg [
    .ev ⟨(some 51), .loadN 2, [.tmp 4], none⟩,
    .ev ⟨none, .store 2, [.tmp 4, .tmp 51], none⟩])
  (.ret))))
theorem fl41 : flatC Try.prog Try.f41.ntmps (Try.f41.body.getD .skip) = some c41 := by kernel_rfl
theorem rs41 : allSome (Try.f41.results.toList.map (flatRes Try.prog)) = some [.many 4 2] := by kernel_rfl
theorem nm41 : (Try.f41.name == "runtime.NumGoroutine") = false := by kernel_rfl
theorem nt41 : Try.f41.ntmps = 52 := by kernel_rfl
theorem gd41 : GoodF Try.prog 41 52 c41 [.many 4 2] := ⟨Try.f41, _, Try.func41, rfl, nm41, nt41, fl41, rs41⟩

/- (pencilworks/sack.batch).beyond$1; parameters: 1; captured: 1 -/
def c42 : AC := .seq (.reg [
    .ev ⟨(some 2), .box, [.tmp 0], none⟩,
    .ev ⟨(some 3), .mv, [.const (.int .i64 0)], none⟩])
  (.seq (.reg [
    .ev ⟨(some 4), .loadN 3, [.tmp 2], none⟩,
    .ev ⟨(some 5), .load1, [.tmp 1], none⟩,
    .ev ⟨(some 6), .call 43, [.tmp 4, .tmp 5], none⟩,
    .ev ⟨(some 3), .mv, [.tmp 6], none⟩])
  (.ret))
theorem fl42 : flatC Try.prog Try.f42.ntmps (Try.f42.body.getD .skip) = some c42 := by kernel_rfl
theorem rs42 : allSome (Try.f42.results.toList.map (flatRes Try.prog)) = some [.tmp 3] := by kernel_rfl
theorem nm42 : (Try.f42.name == "runtime.NumGoroutine") = false := by kernel_rfl
theorem nt42 : Try.f42.ntmps = 7 := by kernel_rfl
theorem gd42 : GoodF Try.prog 42 7 c42 [.tmp 3] := ⟨Try.f42, _, Try.func42, rfl, nm42, nt42, fl42, rs42⟩

/- (pencilworks/sack.state).over; parameters: 2; captured: 0 -/
def c43 : AC := .seq (.reg [
    .ev ⟨(some 2), .box, [.tmp 0], none⟩,
    .ev ⟨(some 4), .mv, [.const (.int .i64 0)], none⟩])
  (.seq (.reg [
    .ev ⟨(some 5), .loadN 3, [.tmp 2], none⟩,
    .ev ⟨(some 8), .mv, [.tmp 1], none⟩,
    .ev ⟨(some 9), .loadN 3, [.tmp 2], none⟩,
    .ev ⟨(some 6), .call 22, [.tmp 5], none⟩,
    .again ⟨(some 9), .loadN 3, [.tmp 2], none⟩,
    .ev ⟨(some 7), .bin .mul .no, [.const (.int .i64 1000), .tmp 6], none⟩,
    .ev ⟨(some 10), .call 25, [.tmp 9], none⟩,
    .ev ⟨(some 11), .bin .mul .no, [.tmp 8, .tmp 10], none⟩,
    .ev ⟨(some 12), .bin .sub .no, [.tmp 7, .tmp 11], none⟩,
    .ev ⟨(some 4), .mv, [.tmp 12], none⟩])
  (.ret))
theorem fl43 : flatC Try.prog Try.f43.ntmps (Try.f43.body.getD .skip) = some c43 := by kernel_rfl
theorem rs43 : allSome (Try.f43.results.toList.map (flatRes Try.prog)) = some [.tmp 4] := by kernel_rfl
theorem nm43 : (Try.f43.name == "runtime.NumGoroutine") = false := by kernel_rfl
theorem nt43 : Try.f43.ntmps = 13 := by kernel_rfl
theorem gd43 : GoodF Try.prog 43 13 c43 [.tmp 4] := ⟨Try.f43, _, Try.func43, rfl, nm43, nt43, fl43, rs43⟩

/- pencilworks/shade.isCurve; parameters: 1; captured: 0 -/
def c44 : AC := .seq (.reg [
    .ev ⟨(some 2), .mv, [.const (.bool false)], none⟩])
  (.seq (.seq (.reg [
    .ev ⟨(some 5), .mv, [.tmp 0], none⟩,
    .ev ⟨(some 6), .len, [.tmp 5], none⟩,
    .ev ⟨(some 7), .call 51, [.tmp 6, .const (.int .i64 2), .const (.int .i64 8)], none⟩,
    .ev ⟨(some 8), .un .not, [.tmp 7], none⟩,
    .ev ⟨(some 9), .mv, [.tmp 8], none⟩,
    .ev ⟨(some 10), .mv, [.tmp 0], some (9, false)⟩,
    .ev ⟨(some 11), .ixS 2, [.tmp 10, .const (.int .i64 0)], some (9, false)⟩,
    .ev ⟨(some 12), .fld 0, [.tmp 11], some (9, false)⟩,
    .ev ⟨(some 13), .load1, [.tmp 12], some (9, false)⟩,
    .ev ⟨(some 14), .bin .neq .no, [.tmp 13, .const (.int .i64 0)], some (9, false)⟩,
    .ev ⟨(some 15), .pick, [.tmp 9, .const (.bool true), .tmp 14], none⟩,
    .ev ⟨(some 16), .mv, [.tmp 15], none⟩,
    .ev ⟨(some 17), .mv, [.tmp 0], some (16, false)⟩,
    .ev ⟨(some 18), .mv, [.tmp 0], some (16, false)⟩,
    .ev ⟨(some 19), .len, [.tmp 18], some (16, false)⟩,
    .ev ⟨(some 20), .bin .sub .no, [.tmp 19, .const (.int .i64 1)], some (16, false)⟩,
    .ev ⟨(some 21), .ixS 2, [.tmp 17, .tmp 20], some (16, false)⟩,
    .ev ⟨(some 22), .fld 0, [.tmp 21], some (16, false)⟩,
    .ev ⟨(some 23), .load1, [.tmp 22], some (16, false)⟩,
    .ev ⟨(some 24), .bin .neq .no, [.tmp 23, .const (.int .i64 1000)], some (16, false)⟩,
    .ev ⟨(some 25), .pick, [.tmp 16, .const (.bool true), .tmp 24], none⟩])
  (.cond (.tmp 25)
   (.seq (.reg [
      .ev ⟨(some 2), .mv, [.const (.bool false)], none⟩])
    (.ret))
   (.skip)))
  (.seq (.seq (.reg [
    .ev ⟨(some 26), .mv, [.tmp 0], none⟩,
    .ev ⟨(some 27), .len, [.tmp 26], none⟩,
    .ev ⟨(some 28), .mv, [.const (.int .i64 0)], none⟩])
  (.block 0 (.loop (.seq (.reg [
        .ev ⟨(some 29), .bin .lss .no, [.tmp 28, .tmp 27], none⟩])
      (.seq (.cond (.tmp 29)
       (.skip)
       (.exit 0))
      (.seq (.block 1 (.seq (.reg [
          .ev ⟨(some 30), .mv, [.tmp 28], none⟩,
          .ev ⟨(some 31), .ixS 2, [.tmp 26, .tmp 28], none⟩,
          .ev ⟨(some 32), .loadN 2, [.tmp 31], none⟩,
          .ev ⟨(some 4), .alloc [(.int .i64 0), (.int .i64 0)], [], none⟩,
          .ev ⟨(some 3), .mv, [.tmp 30], none⟩,
          .ev ⟨none, .store 2, [.tmp 4, .tmp 32], none⟩])
        (.seq (.reg [
          .ev ⟨(some 33), .fld 1, [.tmp 4], none⟩,
          .ev ⟨(some 34), .load1, [.tmp 33], none⟩,
          .ev ⟨(some 35), .call 51, [.tmp 34, .const (.int .i64 0), .const (.int .i64 200)], none⟩,
          .ev ⟨(some 36), .un .not, [.tmp 35], none⟩,
          .ev ⟨(some 37), .mv, [.tmp 36], none⟩,
          .ev ⟨(some 38), .mv, [.tmp 3], some (37, false)⟩,
          .ev ⟨(some 39), .bin .gtr .no, [.tmp 38, .const (.int .i64 0)], some (37, false)⟩,
          .ev ⟨(some 40), .mv, [.tmp 39], some (37, false)⟩,
          .ev ⟨(some 41), .fld 0, [.tmp 4], some (40, true)⟩,
          .ev ⟨(some 42), .load1, [.tmp 41], some (40, true)⟩,
          .ev ⟨(some 43), .mv, [.tmp 0], some (40, true)⟩,
          .ev ⟨(some 44), .mv, [.tmp 3], some (40, true)⟩,
          .ev ⟨(some 45), .bin .sub .no, [.tmp 44, .const (.int .i64 1)], some (40, true)⟩,
          .ev ⟨(some 46), .ixS 2, [.tmp 43, .tmp 45], some (40, true)⟩,
          .ev ⟨(some 47), .fld 0, [.tmp 46], some (40, true)⟩,
          .ev ⟨(some 48), .load1, [.tmp 47], some (40, true)⟩,
          .ev ⟨(some 49), .bin .leq .no, [.tmp 42, .tmp 48], some (40, true)⟩,
          .ev ⟨(some 50), .mv, [.tmp 49], some (40, true)⟩,
          .ev ⟨(some 51), .fld 1, [.tmp 4], some (50, false)⟩,
          .ev ⟨(some 52), .load1, [.tmp 51], some (50, false)⟩,
          .ev ⟨(some 53), .mv, [.tmp 0], some (50, false)⟩,
          .ev ⟨(some 54), .mv, [.tmp 3], some (50, false)⟩,
          .ev ⟨(some 55), .bin .sub .no, [.tmp 54, .const (.int .i64 1)], some (50, false)⟩,
          .ev ⟨(some 56), .ixS 2, [.tmp 53, .tmp 55], some (50, false)⟩,
          .ev ⟨(some 57), .fld 1, [.tmp 56], some (50, false)⟩,
          .ev ⟨(some 58), .load1, [.tmp 57], some (50, false)⟩,
          .ev ⟨(some 59), .bin .lss .no, [.tmp 52, .tmp 58], some (50, false)⟩,
          .ev ⟨(some 60), .pick, [.tmp 50, .const (.bool true), .tmp 59], some (40, true)⟩,
          .ev ⟨(some 61), .pick, [.tmp 40, .tmp 60, .const (.bool false)], some (37, false)⟩,
          .ev ⟨(some 62), .pick, [.tmp 37, .const (.bool true), .tmp 61], none⟩])
        (.cond (.tmp 62)
         (.seq (.reg [
            .ev ⟨(some 2), .mv, [.const (.bool false)], none⟩])
          (.ret))
         (.skip)))))
      (.reg [
        .ev ⟨(some 63), .bin .add .no, [.tmp 28, .const (.int .i64 1)], none⟩,
        .ev ⟨(some 28), .mv, [.tmp 63], none⟩])))))))
  (.seq (.reg [
    .ev ⟨(some 2), .mv, [.const (.bool true)], none⟩])
  (.ret))))
theorem fl44 : flatC Try.prog Try.f44.ntmps (Try.f44.body.getD .skip) = some c44 := by kernel_rfl
theorem rs44 : allSome (Try.f44.results.toList.map (flatRes Try.prog)) = some [.tmp 2] := by kernel_rfl
theorem nm44 : (Try.f44.name == "runtime.NumGoroutine") = false := by kernel_rfl
theorem nt44 : Try.f44.ntmps = 64 := by kernel_rfl
theorem gd44 : GoodF Try.prog 44 64 c44 [.tmp 2] := ⟨Try.f44, _, Try.func44, rfl, nm44, nt44, fl44, rs44⟩

/- slices.ContainsFunc[[]pencilworks/api.Leads,pencilworks/api.Leads]; parameters: 2; captured: 0 -/
def c45 : AC := .seq (.reg [
    .ev ⟨(some 4), .mv, [.const (.bool false)], none⟩])
  (.seq (.reg [
    .ev ⟨(some 5), .mv, [.tmp 0], none⟩,
    .ev ⟨(some 6), .mv, [.tmp 1], none⟩,
    .ev ⟨(some 7), .call 52, [.tmp 5, .tmp 6], none⟩,
    .ev ⟨(some 8), .bin .geq .no, [.tmp 7, .const (.int .i64 0)], none⟩,
    .ev ⟨(some 4), .mv, [.tmp 8], none⟩])
  (.ret))
theorem fl45 : flatC Try.prog Try.f45.ntmps (Try.f45.body.getD .skip) = some c45 := by kernel_rfl
theorem rs45 : allSome (Try.f45.results.toList.map (flatRes Try.prog)) = some [.tmp 4] := by kernel_rfl
theorem nm45 : (Try.f45.name == "runtime.NumGoroutine") = false := by kernel_rfl
theorem nt45 : Try.f45.ntmps = 9 := by kernel_rfl
theorem gd45 : GoodF Try.prog 45 9 c45 [.tmp 4] := ⟨Try.f45, _, Try.func45, rfl, nm45, nt45, fl45, rs45⟩

/- pencilworks/shade.isBad; parameters: 1; captured: 0 -/
def c46 : AC := .seq (.reg [
    .ev ⟨(some 1), .box, [.tmp 0], none⟩,
    .ev ⟨(some 2), .mv, [.const (.bool false)], none⟩])
  (.seq (.reg [
    .ev ⟨(some 3), .loadN 11, [.tmp 1], none⟩,
    .ev ⟨(some 4), .call 53, [.tmp 3], none⟩,
    .ev ⟨(some 5), .un .not, [.tmp 4], none⟩,
    .ev ⟨(some 2), .mv, [.tmp 5], none⟩])
  (.ret))
theorem fl46 : flatC Try.prog Try.f46.ntmps (Try.f46.body.getD .skip) = some c46 := by kernel_rfl
theorem rs46 : allSome (Try.f46.results.toList.map (flatRes Try.prog)) = some [.tmp 2] := by kernel_rfl
theorem nm46 : (Try.f46.name == "runtime.NumGoroutine") = false := by kernel_rfl
theorem nt46 : Try.f46.ntmps = 6 := by kernel_rfl
theorem gd46 : GoodF Try.prog 46 6 c46 [.tmp 2] := ⟨Try.f46, _, Try.func46, rfl, nm46, nt46, fl46, rs46⟩

/- pencilworks/shade.blackOf; parameters: 2; captured: 0 -/
def c47 : AC := .seq (.reg [
    .ev ⟨(some 3), .box, [.tmp 1], none⟩,
    .ev ⟨(some 4), .alloc [(.int .i64 0), (.int .i64 0)], [], none⟩])
  (.seq (.reg [
    .ev ⟨(some 12), .mv, [.tmp 0], none⟩,
    .ev ⟨(some 13), .loadN 11, [.tmp 3], none⟩,
    .ev ⟨(some 14), .build [(.slice none 0 0), (.int .i64 0), (.int .i64 0), (.int .i64 0), (.int .i64 0), (.int .i64 0), (.slice none 0 0), (.int .i64 0), (.int .i64 0), (.int .i64 0), (.int .i64 0), (.int .i64 0)] [(0, 1), (1, 11)], [.tmp 12, .tmp 13], none⟩,
    .ev ⟨(some 15), .mkI 96, [.tmp 14], none⟩,
    .ev ⟨(some 16), .bslice 1 1 [.nilIface] [(0, 1)], [.tmp 15], none⟩,
    .ev ⟨(some 5), .mv, [.tmp 16], none⟩])
  (.seq (.seq (.reg [
    .ev ⟨(some 17), .fld 5, [.tmp 3], none⟩,
    .ev ⟨(some 18), .load1, [.tmp 17], none⟩,
    .ev ⟨(some 19), .len, [.tmp 18], none⟩,
    .ev ⟨(some 20), .mv, [.const (.int .i64 0)], none⟩])
  (.block 0 (.loop (.seq (.reg [
        .ev ⟨(some 21), .bin .lss .no, [.tmp 20, .tmp 19], none⟩])
      (.seq (.cond (.tmp 21)
       (.skip)
       (.exit 0))
      (.seq (.block 1 (.seq (.reg [
          .ev ⟨(some 22), .ixS 4, [.tmp 18, .tmp 20], none⟩,
          .ev ⟨(some 23), .loadN 4, [.tmp 22], none⟩,
          .ev ⟨(some 7), .alloc [(.int .i64 0), (.int .i64 0), (.int .i64 0), (.int .i64 0)], [], none⟩,
          .ev ⟨none, .store 4, [.tmp 7, .tmp 23], none⟩])
        (.reg [
          .ev ⟨(some 24), .mv, [.tmp 5], none⟩,
          .ev ⟨(some 25), .loadN 4, [.tmp 7], none⟩,
          .ev ⟨(some 26), .build [(.int .i64 0), (.int .i64 0), (.int .i64 0), (.int .i64 0)] [(0, 4)], [.tmp 25], none⟩,
          .ev ⟨(some 27), .mkI 101, [.tmp 26], none⟩,
          .ev ⟨(some 28), .bslice 1 1 [.nilIface] [(0, 1)], [.tmp 27], none⟩,
          .ev ⟨(some 29), .app 16 [.nilIface], [.tmp 24, .tmp 28], none⟩,
          .ev ⟨(some 5), .mv, [.tmp 29], none⟩])))
      (.reg [
        .ev ⟨(some 30), .bin .add .no, [.tmp 20, .const (.int .i64 1)], none⟩,
        .ev ⟨(some 20), .mv, [.tmp 30], none⟩])))))))
  (.seq (.reg [
    .ev ⟨(some 31), .build [(.int .i64 0), (.int .i64 0)] [(0, 1), (1, 1)], [.const (.int .i64 0), .const (.int .i64 200)], none⟩,
    .ev ⟨(some 8), .alloc [(.int .i64 0), (.int .i64 0)], [], none⟩,
    .ev ⟨none, .store 2, [.tmp 8, .tmp 31], none⟩])
  (.seq (.seq (.reg [
    .ev ⟨(some 32), .mv, [.tmp 5], none⟩,
    .ev ⟨(some 33), .len, [.tmp 32], none⟩,
    .ev ⟨(some 34), .mv, [.const (.int .i64 0)], none⟩])
  (.block 2 (.loop (.seq (.reg [
        .ev ⟨(some 35), .bin .lss .no, [.tmp 34, .tmp 33], none⟩])
      (.seq (.cond (.tmp 35)
       (.skip)
       (.exit 2))
      (.seq (.block 3 (.seq (.reg [
          .ev ⟨(some 36), .ixS 1, [.tmp 32, .tmp 34], none⟩,
          .ev ⟨(some 37), .load1, [.tmp 36], none⟩,
          .ev ⟨(some 10), .mv, [.tmp 37], none⟩])
        (.seq (.reg [
          .ev ⟨(some 38), .mv, [.tmp 10], none⟩,
          .ev ⟨(some 39), .inv "pencilworks/shade.bounds", [.tmp 38], none⟩,
          .ev ⟨(some 11), .alloc [(.int .i64 0), (.int .i64 0)], [], none⟩,
          .ev ⟨none, .store 2, [.tmp 11, .tmp 39], none⟩])
        (.reg [
          .ev ⟨(some 40), .fld 0, [.tmp 8], none⟩,
          .ev ⟨(some 41), .load1, [.tmp 40], none⟩,
          .ev ⟨(some 42), .fld 0, [.tmp 11], none⟩,
          .ev ⟨(some 43), .load1, [.tmp 42], none⟩,
          .ev ⟨(some 44), .mm true, [.tmp 41, .tmp 43], none⟩,
          .ev ⟨(some 45), .fld 1, [.tmp 8], none⟩,
          .ev ⟨(some 46), .load1, [.tmp 45], none⟩,
          .ev ⟨(some 47), .fld 1, [.tmp 11], none⟩,
          .ev ⟨(some 48), .load1, [.tmp 47], none⟩,
          .ev ⟨(some 49), .mm false, [.tmp 46, .tmp 48], none⟩,
          .ev ⟨(some 50), .build [(.int .i64 0), (.int .i64 0)] [(0, 1), (1, 1)], [.tmp 44, .tmp 49], none⟩,
          .ev ⟨none, .store 2, [.tmp 8, .tmp 50], none⟩]))))
      (.reg [
        .ev ⟨(some 51), .bin .add .no, [.tmp 34, .const (.int .i64 1)], none⟩,
        .ev ⟨(some 34), .mv, [.tmp 51], none⟩])))))))
  (.seq (.reg [
    .ev ⟨(some 52), .loadN 2, [.tmp 8], none⟩,
    .ev ⟨none, .store 2, [.tmp 4, .tmp 52], none⟩])
  (.ret))))))
theorem fl47 : flatC Try.prog Try.f47.ntmps (Try.f47.body.getD .skip) = some c47 := by kernel_rfl
theorem rs47 : allSome (Try.f47.results.toList.map (flatRes Try.prog)) = some [.many 4 2] := by kernel_rfl
theorem nm47 : (Try.f47.name == "runtime.NumGoroutine") = false := by kernel_rfl
theorem nt47 : Try.f47.ntmps = 53 := by kernel_rfl
theorem gd47 : GoodF Try.prog 47 53 c47 [.many 4 2] := ⟨Try.f47, _, Try.func47, rfl, nm47, nt47, fl47, rs47⟩

/- slices.IndexFunc[[]pencilworks/api.Sack,pencilworks/api.Sack]; parameters: 2; captured: 0 -/
def c48 : AC := .seq (.reg [
    .ev ⟨(some 4), .mv, [.const (.int .i64 0)], none⟩])
  (.seq (.seq (.reg [
    .ev ⟨(some 6), .mv, [.tmp 0], none⟩,
    .ev ⟨(some 7), .len, [.tmp 6], none⟩,
    .ev ⟨(some 8), .mv, [.const (.int .i64 0)], none⟩])
  (.block 0 (.loop (.seq (.reg [
        .ev ⟨(some 9), .bin .lss .no, [.tmp 8, .tmp 7], none⟩])
      (.seq (.cond (.tmp 9)
       (.skip)
       (.exit 0))
      (.seq (.block 1 (.seq (.reg [
          .ev ⟨(some 10), .mv, [.tmp 8], none⟩,
          .ev ⟨(some 5), .mv, [.tmp 10], none⟩])
        (.seq (.reg [
          .ev ⟨(some 11), .mv, [.tmp 1], none⟩,
          .ev ⟨(some 12), .mv, [.tmp 0], none⟩,
          .ev ⟨(some 13), .mv, [.tmp 5], none⟩,
          .ev ⟨(some 14), .ixS 6, [.tmp 12, .tmp 13], none⟩,
          .ev ⟨(some 15), .loadN 6, [.tmp 14], none⟩,
          .ev ⟨(some 16), .callv, [.tmp 11, .tmp 15], none⟩])
        (.cond (.tmp 16)
         (.seq (.reg [
            .ev ⟨(some 17), .mv, [.tmp 5], none⟩,
            .ev ⟨(some 4), .mv, [.tmp 17], none⟩])
          (.ret))
         (.skip)))))
      (.reg [
        .ev ⟨(some 18), .bin .add .no, [.tmp 8, .const (.int .i64 1)], none⟩,
        .ev ⟨(some 8), .mv, [.tmp 18], none⟩])))))))
  (.seq (.reg [
    .ev ⟨(some 4), .mv, [.const (.int .i64 (-1))], none⟩])
  (.ret)))
theorem fl48 : flatC Try.prog Try.f48.ntmps (Try.f48.body.getD .skip) = some c48 := by kernel_rfl
theorem rs48 : allSome (Try.f48.results.toList.map (flatRes Try.prog)) = some [.tmp 4] := by kernel_rfl
theorem nm48 : (Try.f48.name == "runtime.NumGoroutine") = false := by kernel_rfl
theorem nt48 : Try.f48.ntmps = 19 := by kernel_rfl
theorem gd48 : GoodF Try.prog 48 19 c48 [.tmp 4] := ⟨Try.f48, _, Try.func48, rfl, nm48, nt48, fl48, rs48⟩

/- slices.IndexFunc[[]pencilworks/api.Take,pencilworks/api.Take]; parameters: 2; captured: 0 -/
def c49 : AC := .seq (.reg [
    .ev ⟨(some 4), .mv, [.const (.int .i64 0)], none⟩])
  (.seq (.seq (.reg [
    .ev ⟨(some 6), .mv, [.tmp 0], none⟩,
    .ev ⟨(some 7), .len, [.tmp 6], none⟩,
    .ev ⟨(some 8), .mv, [.const (.int .i64 0)], none⟩])
  (.block 0 (.loop (.seq (.reg [
        .ev ⟨(some 9), .bin .lss .no, [.tmp 8, .tmp 7], none⟩])
      (.seq (.cond (.tmp 9)
       (.skip)
       (.exit 0))
      (.seq (.block 1 (.seq (.reg [
          .ev ⟨(some 10), .mv, [.tmp 8], none⟩,
          .ev ⟨(some 5), .mv, [.tmp 10], none⟩])
        (.seq (.reg [
          .ev ⟨(some 11), .mv, [.tmp 1], none⟩,
          .ev ⟨(some 12), .mv, [.tmp 0], none⟩,
          .ev ⟨(some 13), .mv, [.tmp 5], none⟩,
          .ev ⟨(some 14), .ixS 3, [.tmp 12, .tmp 13], none⟩,
          .ev ⟨(some 15), .loadN 3, [.tmp 14], none⟩,
          .ev ⟨(some 16), .callv, [.tmp 11, .tmp 15], none⟩])
        (.cond (.tmp 16)
         (.seq (.reg [
            .ev ⟨(some 17), .mv, [.tmp 5], none⟩,
            .ev ⟨(some 4), .mv, [.tmp 17], none⟩])
          (.ret))
         (.skip)))))
      (.reg [
        .ev ⟨(some 18), .bin .add .no, [.tmp 8, .const (.int .i64 1)], none⟩,
        .ev ⟨(some 8), .mv, [.tmp 18], none⟩])))))))
  (.seq (.reg [
    .ev ⟨(some 4), .mv, [.const (.int .i64 (-1))], none⟩])
  (.ret)))
theorem fl49 : flatC Try.prog Try.f49.ntmps (Try.f49.body.getD .skip) = some c49 := by kernel_rfl
theorem rs49 : allSome (Try.f49.results.toList.map (flatRes Try.prog)) = some [.tmp 4] := by kernel_rfl
theorem nm49 : (Try.f49.name == "runtime.NumGoroutine") = false := by kernel_rfl
theorem nt49 : Try.f49.ntmps = 19 := by kernel_rfl
theorem gd49 : GoodF Try.prog 49 19 c49 [.tmp 4] := ⟨Try.f49, _, Try.func49, rfl, nm49, nt49, fl49, rs49⟩

/- (pencilworks/sack.store).states; parameters: 1; captured: 0 -/
def c50 : AC := .seq (.reg [
    .ev ⟨(some 1), .box, [.tmp 0], none⟩,
    .ev ⟨(some 2), .mv, [.const .nilFunc], none⟩])
  (.seq (.reg [
    .ev ⟨(some 3), .mkF (.func 54) 0, [.tmp 1], none⟩,
    .ev ⟨(some 2), .mv, [.tmp 3], none⟩])
  (.ret))
theorem fl50 : flatC Try.prog Try.f50.ntmps (Try.f50.body.getD .skip) = some c50 := by kernel_rfl
theorem rs50 : allSome (Try.f50.results.toList.map (flatRes Try.prog)) = some [.tmp 2] := by kernel_rfl
theorem nm50 : (Try.f50.name == "runtime.NumGoroutine") = false := by kernel_rfl
theorem nt50 : Try.f50.ntmps = 4 := by kernel_rfl
theorem gd50 : GoodF Try.prog 50 4 c50 [.tmp 2] := ⟨Try.f50, _, Try.func50, rfl, nm50, nt50, fl50, rs50⟩

/- pencilworks/shade.within; parameters: 3; captured: 0 -/
def c51 : AC := .seq (.reg [
    .ev ⟨(some 6), .mv, [.const (.bool false)], none⟩])
  (.seq (.reg [
    .ev ⟨(some 7), .mv, [.tmp 1], none⟩,
    .ev ⟨(some 8), .mv, [.tmp 0], none⟩,
    .ev ⟨(some 9), .bin .leq .no, [.tmp 7, .tmp 8], none⟩,
    .ev ⟨(some 10), .mv, [.tmp 9], none⟩,
    .ev ⟨(some 11), .mv, [.tmp 0], some (10, true)⟩,
    .ev ⟨(some 12), .mv, [.tmp 2], some (10, true)⟩,
    .ev ⟨(some 13), .bin .leq .no, [.tmp 11, .tmp 12], some (10, true)⟩,
    .ev ⟨(some 14), .pick, [.tmp 10, .tmp 13, .const (.bool false)], none⟩,
    .ev ⟨(some 6), .mv, [.tmp 14], none⟩])
  (.ret))
theorem fl51 : flatC Try.prog Try.f51.ntmps (Try.f51.body.getD .skip) = some c51 := by kernel_rfl
theorem rs51 : allSome (Try.f51.results.toList.map (flatRes Try.prog)) = some [.tmp 6] := by kernel_rfl
theorem nm51 : (Try.f51.name == "runtime.NumGoroutine") = false := by kernel_rfl
theorem nt51 : Try.f51.ntmps = 15 := by kernel_rfl
theorem gd51 : GoodF Try.prog 51 15 c51 [.tmp 6] := ⟨Try.f51, _, Try.func51, rfl, nm51, nt51, fl51, rs51⟩

/- slices.IndexFunc[[]pencilworks/api.Leads,pencilworks/api.Leads]; parameters: 2; captured: 0 -/
def c52 : AC := .seq (.reg [
    .ev ⟨(some 4), .mv, [.const (.int .i64 0)], none⟩])
  (.seq (.seq (.reg [
    .ev ⟨(some 6), .mv, [.tmp 0], none⟩,
    .ev ⟨(some 7), .len, [.tmp 6], none⟩,
    .ev ⟨(some 8), .mv, [.const (.int .i64 0)], none⟩])
  (.block 0 (.loop (.seq (.reg [
        .ev ⟨(some 9), .bin .lss .no, [.tmp 8, .tmp 7], none⟩])
      (.seq (.cond (.tmp 9)
       (.skip)
       (.exit 0))
      (.seq (.block 1 (.seq (.reg [
          .ev ⟨(some 10), .mv, [.tmp 8], none⟩,
          .ev ⟨(some 5), .mv, [.tmp 10], none⟩])
        (.seq (.reg [
          .ev ⟨(some 11), .mv, [.tmp 1], none⟩,
          .ev ⟨(some 12), .mv, [.tmp 0], none⟩,
          .ev ⟨(some 13), .mv, [.tmp 5], none⟩,
          .ev ⟨(some 14), .ixS 11, [.tmp 12, .tmp 13], none⟩,
          .ev ⟨(some 15), .loadN 11, [.tmp 14], none⟩,
          .ev ⟨(some 16), .callv, [.tmp 11, .tmp 15], none⟩])
        (.cond (.tmp 16)
         (.seq (.reg [
            .ev ⟨(some 17), .mv, [.tmp 5], none⟩,
            .ev ⟨(some 4), .mv, [.tmp 17], none⟩])
          (.ret))
         (.skip)))))
      (.reg [
        .ev ⟨(some 18), .bin .add .no, [.tmp 8, .const (.int .i64 1)], none⟩,
        .ev ⟨(some 8), .mv, [.tmp 18], none⟩])))))))
  (.seq (.reg [
    .ev ⟨(some 4), .mv, [.const (.int .i64 (-1))], none⟩])
  (.ret)))
theorem fl52 : flatC Try.prog Try.f52.ntmps (Try.f52.body.getD .skip) = some c52 := by kernel_rfl
theorem rs52 : allSome (Try.f52.results.toList.map (flatRes Try.prog)) = some [.tmp 4] := by kernel_rfl
theorem nm52 : (Try.f52.name == "runtime.NumGoroutine") = false := by kernel_rfl
theorem nt52 : Try.f52.ntmps = 19 := by kernel_rfl
theorem gd52 : GoodF Try.prog 52 19 c52 [.tmp 4] := ⟨Try.f52, _, Try.func52, rfl, nm52, nt52, fl52, rs52⟩

/- pencilworks/shade.isLeads; parameters: 1; captured: 0 -/
def c53 : AC := .seq (.reg [
    .ev ⟨(some 1), .box, [.tmp 0], none⟩,
    .ev ⟨(some 2), .mv, [.const (.bool false)], none⟩])
  (.seq (.reg [
    .ev ⟨(some 3), .mv, [.func 55], none⟩])
  (.seq (.reg [
    .ev ⟨(some 6), .fld 0, [.tmp 1], none⟩,
    .ev ⟨(some 7), .loadN 2, [.tmp 6], none⟩,
    .ev ⟨(some 8), .call 56, [.tmp 7, .const (.int .i64 1), .const (.int .i64 1073741824)], none⟩,
    .ev ⟨(some 9), .mv, [.tmp 8], none⟩,
    .ev ⟨(some 10), .fld 2, [.tmp 1], some (9, true)⟩,
    .ev ⟨(some 11), .loadN 2, [.tmp 10], some (9, true)⟩,
    .ev ⟨(some 12), .call 56, [.tmp 11, .const (.int .i64 0), .const (.int .i64 1073741824)], some (9, true)⟩,
    .ev ⟨(some 13), .pick, [.tmp 9, .tmp 12, .const (.bool false)], none⟩,
    .ev ⟨(some 14), .mv, [.tmp 13], none⟩,
    .ev ⟨(some 15), .fld 4, [.tmp 1], some (14, true)⟩,
    .ev ⟨(some 16), .load1, [.tmp 15], some (14, true)⟩,
    .ev ⟨(some 17), .call 51, [.tmp 16, .const (.int .i64 0), .const (.int .i64 200)], some (14, true)⟩,
    .ev ⟨(some 18), .pick, [.tmp 14, .tmp 17, .const (.bool false)], none⟩,
    .ev ⟨(some 4), .mv, [.tmp 18], none⟩])
  (.seq (.reg [
    .ev ⟨(some 19), .fld 6, [.tmp 1], none⟩,
    .ev ⟨(some 20), .loadN 2, [.tmp 19], none⟩,
    .ev ⟨(some 21), .call 56, [.tmp 20, .const (.int .i64 0), .const (.int .i64 10000)], none⟩,
    .ev ⟨(some 22), .mv, [.tmp 21], none⟩,
    .ev ⟨(some 23), .fld 8, [.tmp 1], some (22, true)⟩,
    .ev ⟨(some 24), .loadN 2, [.tmp 23], some (22, true)⟩,
    .ev ⟨(some 25), .call 56, [.tmp 24, .const (.int .i64 0), .const (.int .i64 10000)], some (22, true)⟩,
    .ev ⟨(some 26), .pick, [.tmp 22, .tmp 25, .const (.bool false)], none⟩,
    .ev ⟨(some 27), .mv, [.tmp 26], none⟩,
    .ev ⟨(some 28), .fld 10, [.tmp 1], some (27, true)⟩,
    .ev ⟨(some 29), .load1, [.tmp 28], some (27, true)⟩,
    .ev ⟨(some 30), .call 51, [.tmp 29, .const (.int .i64 0), .const (.int .i64 1048576)], some (27, true)⟩,
    .ev ⟨(some 31), .pick, [.tmp 27, .tmp 30, .const (.bool false)], none⟩,
    .ev ⟨(some 5), .mv, [.tmp 31], none⟩])
  (.seq (.reg [
    .ev ⟨(some 32), .mv, [.tmp 4], none⟩,
    .ev ⟨(some 33), .mv, [.tmp 32], none⟩,
    .ev ⟨(some 34), .mv, [.tmp 5], some (33, true)⟩,
    .ev ⟨(some 35), .pick, [.tmp 33, .tmp 34, .const (.bool false)], none⟩,
    .ev ⟨(some 36), .mv, [.tmp 35], none⟩,
    .ev ⟨(some 37), .fld 5, [.tmp 1], some (36, true)⟩,
    .ev ⟨(some 38), .load1, [.tmp 37], some (36, true)⟩,
    .ev ⟨(some 39), .len, [.tmp 38], some (36, true)⟩,
    .ev ⟨(some 40), .bin .leq .no, [.tmp 39, .const (.int .i64 6)], some (36, true)⟩,
    .ev ⟨(some 41), .pick, [.tmp 36, .tmp 40, .const (.bool false)], none⟩,
    .ev ⟨(some 42), .mv, [.tmp 41], none⟩,
    .ev ⟨(some 43), .fld 5, [.tmp 1], some (42, true)⟩,
    .ev ⟨(some 44), .load1, [.tmp 43], some (42, true)⟩,
    .ev ⟨(some 45), .mv, [.tmp 3], some (42, true)⟩,
    .ev ⟨(some 46), .call 57, [.tmp 44, .tmp 45], some (42, true)⟩,
    .ev ⟨(some 47), .un .not, [.tmp 46], some (42, true)⟩,
    .ev ⟨(some 48), .pick, [.tmp 42, .tmp 47, .const (.bool false)], none⟩,
    .ev ⟨(some 2), .mv, [.tmp 48], none⟩])
  (.ret)))))
theorem fl53 : flatC Try.prog Try.f53.ntmps (Try.f53.body.getD .skip) = some c53 := by kernel_rfl
theorem rs53 : allSome (Try.f53.results.toList.map (flatRes Try.prog)) = some [.tmp 2] := by kernel_rfl
theorem nm53 : (Try.f53.name == "runtime.NumGoroutine") = false := by kernel_rfl
theorem nt53 : Try.f53.ntmps = 49 := by kernel_rfl
theorem gd53 : GoodF Try.prog 53 49 c53 [.tmp 2] := ⟨Try.f53, _, Try.func53, rfl, nm53, nt53, fl53, rs53⟩

/- (pencilworks/sack.store).states$1; parameters: 1; captured: 1 -/
def c54 : AC := .seq (.reg [
    .ev ⟨(some 9), .fld 0, [.tmp 1], none⟩,
    .ev ⟨(some 10), .fld 0, [.tmp 9], none⟩,
    .ev ⟨(some 11), .fld 0, [.tmp 10], none⟩,
    .ev ⟨(some 12), .load1, [.tmp 11], none⟩,
    .ev ⟨(some 13), .fld 0, [.tmp 1], none⟩,
    .ev ⟨(some 14), .fld 0, [.tmp 13], none⟩,
    .ev ⟨(some 15), .fld 1, [.tmp 14], none⟩,
    .ev ⟨(some 16), .load1, [.tmp 15], none⟩,
    .ev ⟨(some 17), .build [(.int .i64 0), (.int .i64 0)] [(0, 1), (1, 1)], [.tmp 12, .tmp 16], none⟩,
    .ev ⟨(some 18), .mv, [.const (.int .i64 0)], none⟩])
  (.block 0 (.loop (.seq (.reg [
        .ev ⟨(some 19), .bin .lss .no, [.tmp 18, .const (.int .i64 2)], none⟩])
      (.seq (.cond (.tmp 19)
       (.skip)
       (.exit 0))
      (.seq (.block 1 (.seq (.reg [
          .ev ⟨(some 20), .ix 2 1 false, [.tmp 17, .tmp 18], none⟩,
          .ev ⟨(some 4), .mv, [.tmp 20], none⟩])
        (.seq (.reg [
          .ev ⟨(some 21), .fld 0, [.tmp 1], none⟩,
          .ev ⟨(some 22), .fld 2, [.tmp 21], none⟩,
          .ev ⟨(some 23), .fld 0, [.tmp 22], none⟩,
          .ev ⟨(some 24), .load1, [.tmp 23], none⟩,
          .ev ⟨(some 25), .fld 0, [.tmp 1], none⟩,
          .ev ⟨(some 26), .fld 2, [.tmp 25], none⟩,
          .ev ⟨(some 27), .fld 1, [.tmp 26], none⟩,
          .ev ⟨(some 28), .load1, [.tmp 27], none⟩,
          .ev ⟨(some 29), .build [(.int .i64 0), (.int .i64 0)] [(0, 1), (1, 1)], [.tmp 24, .tmp 28], none⟩,
          .ev ⟨(some 30), .mv, [.const (.int .i64 0)], none⟩])
        (.block 2 (.loop (.seq (.reg [
              .ev ⟨(some 31), .bin .lss .no, [.tmp 30, .const (.int .i64 2)], none⟩])
            (.seq (.cond (.tmp 31)
             (.skip)
             (.exit 2))
            (.seq (.block 3 (.seq (.reg [
                .ev ⟨(some 32), .ix 2 1 false, [.tmp 29, .tmp 30], none⟩,
                .ev ⟨(some 6), .mv, [.tmp 32], none⟩])
              (.seq (.reg [
                .ev ⟨(some 33), .fld 0, [.tmp 1], none⟩,
                .ev ⟨(some 34), .fld 4, [.tmp 33], none⟩,
                .ev ⟨(some 35), .fld 0, [.tmp 34], none⟩,
                .ev ⟨(some 36), .load1, [.tmp 35], none⟩,
                .ev ⟨(some 37), .fld 0, [.tmp 1], none⟩,
                .ev ⟨(some 38), .fld 4, [.tmp 37], none⟩,
                .ev ⟨(some 39), .fld 1, [.tmp 38], none⟩,
                .ev ⟨(some 40), .load1, [.tmp 39], none⟩,
                .ev ⟨(some 41), .build [(.int .i64 0), (.int .i64 0)] [(0, 1), (1, 1)], [.tmp 36, .tmp 40], none⟩,
                .ev ⟨(some 42), .mv, [.const (.int .i64 0)], none⟩])
              (.block 4 (.loop (.seq (.reg [
                    .ev ⟨(some 43), .bin .lss .no, [.tmp 42, .const (.int .i64 2)], none⟩])
                  (.seq (.cond (.tmp 43)
                   (.skip)
                   (.exit 4))
                  (.seq (.block 5 (.seq (.reg [
                      .ev ⟨(some 44), .ix 2 1 false, [.tmp 41, .tmp 42], none⟩,
                      .ev ⟨(some 8), .mv, [.tmp 44], none⟩])
                    (.seq (.reg [
                      .ev ⟨(some 45), .mv, [.tmp 0], none⟩,
                      .ev ⟨(some 46), .mv, [.tmp 4], none⟩,
                      .ev ⟨(some 47), .mv, [.tmp 6], none⟩,
                      .ev ⟨(some 48), .mv, [.tmp 8], none⟩,
                      .ev ⟨(some 49), .build [(.int .i64 0), (.int .i64 0), (.int .i64 0)] [(0, 1), (1, 1), (2, 1)], [.tmp 46, .tmp 47, .tmp 48], none⟩,
                      .ev ⟨(some 50), .callv, [.tmp 45, .tmp 49], none⟩,
                      .ev ⟨(some 51), .un .not, [.tmp 50], none⟩])
                    (.cond (.tmp 51)
                     (.ret)
                     (.skip)))))
                  (.reg [
                    .ev ⟨(some 52), .bin .add .no, [.tmp 42, .const (.int .i64 1)], none⟩,
                    .ev ⟨(some 42), .mv, [.tmp 52], none⟩])))))))))
            (.reg [
              .ev ⟨(some 53), .bin .add .no, [.tmp 30, .const (.int .i64 1)], none⟩,
              .ev ⟨(some 30), .mv, [.tmp 53], none⟩])))))))))
      (.reg [
        .ev ⟨(some 54), .bin .add .no, [.tmp 18, .const (.int .i64 1)], none⟩,
        .ev ⟨(some 18), .mv, [.tmp 54], none⟩]))))))
theorem fl54 : flatC Try.prog Try.f54.ntmps (Try.f54.body.getD .skip) = some c54 := by kernel_rfl
theorem rs54 : allSome (Try.f54.results.toList.map (flatRes Try.prog)) = some [] := by kernel_rfl
theorem nm54 : (Try.f54.name == "runtime.NumGoroutine") = false := by kernel_rfl
theorem nt54 : Try.f54.ntmps = 55 := by kernel_rfl
theorem gd54 : GoodF Try.prog 54 55 c54 [] := ⟨Try.f54, _, Try.func54, rfl, nm54, nt54, fl54, rs54⟩

/- pencilworks/shade.isLeads$1; parameters: 1; captured: 0 -/
def c55 : AC := .seq (.reg [
    .ev ⟨(some 1), .box, [.tmp 0], none⟩,
    .ev ⟨(some 2), .mv, [.const (.bool false)], none⟩])
  (.seq (.reg [
    .ev ⟨(some 3), .fld 0, [.tmp 1], none⟩,
    .ev ⟨(some 4), .loadN 2, [.tmp 3], none⟩,
    .ev ⟨(some 5), .call 56, [.tmp 4, .const (.int .i64 0), .const (.int .i64 1000)], none⟩,
    .ev ⟨(some 6), .un .not, [.tmp 5], none⟩,
    .ev ⟨(some 7), .mv, [.tmp 6], none⟩,
    .ev ⟨(some 8), .fld 2, [.tmp 1], some (7, false)⟩,
    .ev ⟨(some 9), .loadN 2, [.tmp 8], some (7, false)⟩,
    .ev ⟨(some 10), .call 56, [.tmp 9, .const (.int .i64 1), .const (.int .i64 4000)], some (7, false)⟩,
    .ev ⟨(some 11), .un .not, [.tmp 10], some (7, false)⟩,
    .ev ⟨(some 12), .pick, [.tmp 7, .const (.bool true), .tmp 11], none⟩,
    .ev ⟨(some 2), .mv, [.tmp 12], none⟩])
  (.ret))
theorem fl55 : flatC Try.prog Try.f55.ntmps (Try.f55.body.getD .skip) = some c55 := by kernel_rfl
theorem rs55 : allSome (Try.f55.results.toList.map (flatRes Try.prog)) = some [.tmp 2] := by kernel_rfl
theorem nm55 : (Try.f55.name == "runtime.NumGoroutine") = false := by kernel_rfl
theorem nt55 : Try.f55.ntmps = 13 := by kernel_rfl
theorem gd55 : GoodF Try.prog 55 13 c55 [.tmp 2] := ⟨Try.f55, _, Try.func55, rfl, nm55, nt55, fl55, rs55⟩

/- pencilworks/shade.isSpan; parameters: 3; captured: 0 -/
def c56 : AC := .seq (.reg [
    .ev ⟨(some 3), .box, [.tmp 0], none⟩,
    .ev ⟨(some 6), .mv, [.const (.bool false)], none⟩])
  (.seq (.reg [
    .ev ⟨(some 7), .mv, [.tmp 1], none⟩,
    .ev ⟨(some 8), .fld 0, [.tmp 3], none⟩,
    .ev ⟨(some 9), .load1, [.tmp 8], none⟩,
    .ev ⟨(some 10), .bin .leq .no, [.tmp 7, .tmp 9], none⟩,
    .ev ⟨(some 11), .mv, [.tmp 10], none⟩,
    .ev ⟨(some 12), .fld 0, [.tmp 3], some (11, true)⟩,
    .ev ⟨(some 13), .load1, [.tmp 12], some (11, true)⟩,
    .ev ⟨(some 14), .fld 1, [.tmp 3], some (11, true)⟩,
    .ev ⟨(some 15), .load1, [.tmp 14], some (11, true)⟩,
    .ev ⟨(some 16), .bin .leq .no, [.tmp 13, .tmp 15], some (11, true)⟩,
    .ev ⟨(some 17), .pick, [.tmp 11, .tmp 16, .const (.bool false)], none⟩,
    .ev ⟨(some 18), .mv, [.tmp 17], none⟩,
    .ev ⟨(some 19), .fld 1, [.tmp 3], some (18, true)⟩,
    .ev ⟨(some 20), .load1, [.tmp 19], some (18, true)⟩,
    .ev ⟨(some 21), .mv, [.tmp 2], some (18, true)⟩,
    .ev ⟨(some 22), .bin .leq .no, [.tmp 20, .tmp 21], some (18, true)⟩,
    .ev ⟨(some 23), .pick, [.tmp 18, .tmp 22, .const (.bool false)], none⟩,
    .ev ⟨(some 6), .mv, [.tmp 23], none⟩])
  (.ret))
theorem fl56 : flatC Try.prog Try.f56.ntmps (Try.f56.body.getD .skip) = some c56 := by kernel_rfl
theorem rs56 : allSome (Try.f56.results.toList.map (flatRes Try.prog)) = some [.tmp 6] := by kernel_rfl
theorem nm56 : (Try.f56.name == "runtime.NumGoroutine") = false := by kernel_rfl
theorem nt56 : Try.f56.ntmps = 24 := by kernel_rfl
theorem gd56 : GoodF Try.prog 56 24 c56 [.tmp 6] := ⟨Try.f56, _, Try.func56, rfl, nm56, nt56, fl56, rs56⟩

/- slices.ContainsFunc[[]pencilworks/api.Stroke,pencilworks/api.Stroke]; parameters: 2; captured: 0 -/
def c57 : AC := .seq (.reg [
    .ev ⟨(some 4), .mv, [.const (.bool false)], none⟩])
  (.seq (.reg [
    .ev ⟨(some 5), .mv, [.tmp 0], none⟩,
    .ev ⟨(some 6), .mv, [.tmp 1], none⟩,
    .ev ⟨(some 7), .call 58, [.tmp 5, .tmp 6], none⟩,
    .ev ⟨(some 8), .bin .geq .no, [.tmp 7, .const (.int .i64 0)], none⟩,
    .ev ⟨(some 4), .mv, [.tmp 8], none⟩])
  (.ret))
theorem fl57 : flatC Try.prog Try.f57.ntmps (Try.f57.body.getD .skip) = some c57 := by kernel_rfl
theorem rs57 : allSome (Try.f57.results.toList.map (flatRes Try.prog)) = some [.tmp 4] := by kernel_rfl
theorem nm57 : (Try.f57.name == "runtime.NumGoroutine") = false := by kernel_rfl
theorem nt57 : Try.f57.ntmps = 9 := by kernel_rfl
theorem gd57 : GoodF Try.prog 57 9 c57 [.tmp 4] := ⟨Try.f57, _, Try.func57, rfl, nm57, nt57, fl57, rs57⟩

/- slices.IndexFunc[[]pencilworks/api.Stroke,pencilworks/api.Stroke]; parameters: 2; captured: 0 -/
def c58 : AC := .seq (.reg [
    .ev ⟨(some 4), .mv, [.const (.int .i64 0)], none⟩])
  (.seq (.seq (.reg [
    .ev ⟨(some 6), .mv, [.tmp 0], none⟩,
    .ev ⟨(some 7), .len, [.tmp 6], none⟩,
    .ev ⟨(some 8), .mv, [.const (.int .i64 0)], none⟩])
  (.block 0 (.loop (.seq (.reg [
        .ev ⟨(some 9), .bin .lss .no, [.tmp 8, .tmp 7], none⟩])
      (.seq (.cond (.tmp 9)
       (.skip)
       (.exit 0))
      (.seq (.block 1 (.seq (.reg [
          .ev ⟨(some 10), .mv, [.tmp 8], none⟩,
          .ev ⟨(some 5), .mv, [.tmp 10], none⟩])
        (.seq (.reg [
          .ev ⟨(some 11), .mv, [.tmp 1], none⟩,
          .ev ⟨(some 12), .mv, [.tmp 0], none⟩,
          .ev ⟨(some 13), .mv, [.tmp 5], none⟩,
          .ev ⟨(some 14), .ixS 4, [.tmp 12, .tmp 13], none⟩,
          .ev ⟨(some 15), .loadN 4, [.tmp 14], none⟩,
          .ev ⟨(some 16), .callv, [.tmp 11, .tmp 15], none⟩])
        (.cond (.tmp 16)
         (.seq (.reg [
            .ev ⟨(some 17), .mv, [.tmp 5], none⟩,
            .ev ⟨(some 4), .mv, [.tmp 17], none⟩])
          (.ret))
         (.skip)))))
      (.reg [
        .ev ⟨(some 18), .bin .add .no, [.tmp 8, .const (.int .i64 1)], none⟩,
        .ev ⟨(some 8), .mv, [.tmp 18], none⟩])))))))
  (.seq (.reg [
    .ev ⟨(some 4), .mv, [.const (.int .i64 (-1))], none⟩])
  (.ret)))
theorem fl58 : flatC Try.prog Try.f58.ntmps (Try.f58.body.getD .skip) = some c58 := by kernel_rfl
theorem rs58 : allSome (Try.f58.results.toList.map (flatRes Try.prog)) = some [.tmp 4] := by kernel_rfl
theorem nm58 : (Try.f58.name == "runtime.NumGoroutine") = false := by kernel_rfl
theorem nt58 : Try.f58.ntmps = 19 := by kernel_rfl
theorem gd58 : GoodF Try.prog 58 19 c58 [.tmp 4] := ⟨Try.f58, _, Try.func58, rfl, nm58, nt58, fl58, rs58⟩

/- (pencilworks/shade.recipe).bounds; parameters: 1; captured: 0 -/
def c74 : AC := .seq (.reg [
    .ev ⟨(some 1), .box, [.tmp 0], none⟩,
    .ev ⟨(some 2), .alloc [(.int .i64 0), (.int .i64 0)], [], none⟩])
  (.seq (.reg [
    .ev ⟨(some 5), .fld 0, [.tmp 1], none⟩,
    .ev ⟨(some 6), .load1, [.tmp 5], none⟩,
    .ev ⟨(some 7), .fld 1, [.tmp 1], none⟩,
    .ev ⟨(some 8), .fld 0, [.tmp 7], none⟩,
    .ev ⟨(some 9), .fld 0, [.tmp 8], none⟩,
    .ev ⟨(some 10), .load1, [.tmp 9], none⟩,
    .ev ⟨(some 11), .fld 1, [.tmp 1], none⟩,
    .ev ⟨(some 12), .fld 2, [.tmp 11], none⟩,
    .ev ⟨(some 13), .fld 1, [.tmp 12], none⟩,
    .ev ⟨(some 14), .load1, [.tmp 13], none⟩,
    .ev ⟨(some 15), .build [(.slice none 0 0), (.int .i64 0), (.int .i64 0)] [(0, 1), (1, 1), (2, 1)], [.tmp 6, .tmp 10, .tmp 14], none⟩,
    .ev ⟨(some 17), .fld 0, [.tmp 1], none⟩,
    .ev ⟨(some 18), .load1, [.tmp 17], none⟩,
    .ev ⟨(some 19), .fld 1, [.tmp 1], none⟩,
    .ev ⟨(some 20), .fld 0, [.tmp 19], none⟩,
    .ev ⟨(some 21), .fld 1, [.tmp 20], none⟩,
    .ev ⟨(some 22), .load1, [.tmp 21], none⟩,
    .ev ⟨(some 23), .fld 1, [.tmp 1], none⟩,
    .ev ⟨(some 24), .fld 2, [.tmp 23], none⟩,
    .ev ⟨(some 25), .fld 0, [.tmp 24], none⟩,
    .ev ⟨(some 26), .load1, [.tmp 25], none⟩,
    .ev ⟨(some 27), .build [(.slice none 0 0), (.int .i64 0), (.int .i64 0)] [(0, 1), (1, 1), (2, 1)], [.tmp 18, .tmp 22, .tmp 26], none⟩,
    .ev ⟨(some 3), .alloc [(.int .i64 0), (.int .i64 0)], [], none⟩,
    .ev ⟨(some 4), .alloc [(.int .i64 0), (.int .i64 0)], [], none⟩,
    .ev ⟨(some 16), .call 75, [.tmp 15], none⟩,
    .again ⟨(some 18), .load1, [.tmp 17], none⟩,
    .again ⟨(some 22), .load1, [.tmp 21], none⟩,
    .again ⟨(some 26), .load1, [.tmp 25], none⟩,
    .again ⟨(some 3), .alloc [(.int .i64 0), (.int .i64 0)], [], none⟩,
    .again ⟨(some 4), .alloc [(.int .i64 0), (.int .i64 0)], [], none⟩,
    .ev ⟨(some 28), .call 75, [.tmp 27], none⟩,
    .again ⟨(some 3), .alloc [(.int .i64 0), (.int .i64 0)], [], none⟩,
    .again ⟨(some 4), .alloc [(.int .i64 0), (.int .i64 0)], [], none⟩,
    .ev ⟨none, .store 2, [.tmp 3, .tmp 16], none⟩,
    .ev ⟨none, .store 2, [.tmp 4, .tmp 28], none⟩])
  (.seq (.reg [
    .ev ⟨(some 29), .loadN 2, [.tmp 3], none⟩,
    .ev ⟨(some 31), .fld 1, [.tmp 1], none⟩,
    .ev ⟨(some 32), .fld 4, [.tmp 31], none⟩,
    .ev ⟨(some 33), .load1, [.tmp 32], none⟩,
    .ev ⟨(some 35), .loadN 2, [.tmp 4], none⟩,
    .ev ⟨(some 37), .fld 1, [.tmp 1], none⟩,
    .ev ⟨(some 38), .fld 4, [.tmp 37], none⟩,
    .ev ⟨(some 39), .load1, [.tmp 38], none⟩,
    .ev ⟨(some 30), .call 76, [.tmp 29], none⟩,
    .again ⟨(some 33), .load1, [.tmp 32], none⟩,
    .again ⟨(some 35), .loadN 2, [.tmp 4], none⟩,
    .again ⟨(some 39), .load1, [.tmp 38], none⟩,
    .ev ⟨(some 34), .bin .sub .no, [.tmp 30, .tmp 33], none⟩,
    .ev ⟨(some 36), .call 77, [.tmp 35], none⟩,
    .again ⟨(some 33), .load1, [.tmp 32], none⟩,
    .again ⟨(some 39), .load1, [.tmp 38], none⟩,
    .ev ⟨(some 40), .bin .add .no, [.tmp 36, .tmp 39], none⟩,
    .ev ⟨(some 41), .build [(.int .i64 0), (.int .i64 0)] [(0, 1), (1, 1)], [.tmp 34, .tmp 40], none⟩,
    .ev ⟨none, .store 2, [.tmp 2, .tmp 41], none⟩])
  (.ret)))
theorem fl74 : flatC Try.prog Try.f74.ntmps (Try.f74.body.getD .skip) = some c74 := by kernel_rfl
theorem rs74 : allSome (Try.f74.results.toList.map (flatRes Try.prog)) = some [.many 2 2] := by kernel_rfl
theorem nm74 : (Try.f74.name == "runtime.NumGoroutine") = false := by kernel_rfl
theorem nt74 : Try.f74.ntmps = 42 := by kernel_rfl
theorem gd74 : GoodF Try.prog 74 42 c74 [.many 2 2] := ⟨Try.f74, _, Try.func74, rfl, nm74, nt74, fl74, rs74⟩

/- (pencilworks/shade.mix).black; parameters: 1; captured: 0 -/
def c75 : AC := .seq (.reg [
    .ev ⟨(some 1), .box, [.tmp 0], none⟩,
    .ev ⟨(some 2), .alloc [(.int .i64 0), (.int .i64 0)], [], none⟩])
  (.seq (.reg [
    .ev ⟨(some 9), .fld 1, [.tmp 1], none⟩,
    .ev ⟨(some 10), .load1, [.tmp 9], none⟩,
    .ev ⟨(some 11), .fld 2, [.tmp 1], none⟩,
    .ev ⟨(some 12), .load1, [.tmp 11], none⟩,
    .ev ⟨(some 13), .bin .add .no, [.tmp 10, .tmp 12], none⟩,
    .ev ⟨(some 3), .mv, [.tmp 13], none⟩])
  (.seq (.reg [
    .ev ⟨(some 14), .loadN 3, [.tmp 1], none⟩,
    .ev ⟨(some 15), .mkF (.func 78) 1, [.tmp 14], none⟩,
    .ev ⟨(some 4), .mv, [.tmp 15], none⟩])
  (.seq (.reg [
    .ev ⟨(some 16), .fld 0, [.tmp 1], none⟩,
    .ev ⟨(some 17), .load1, [.tmp 16], none⟩,
    .ev ⟨(some 18), .len, [.tmp 17], none⟩,
    .ev ⟨(some 19), .bin .sub .no, [.tmp 18, .const (.int .i64 2)], none⟩,
    .ev ⟨(some 20), .mv, [.tmp 4], none⟩,
    .ev ⟨(some 21), .call 29, [.tmp 19, .tmp 20], none⟩,
    .ev ⟨(some 5), .mv, [.tmp 21], none⟩])
  (.seq (.reg [
    .ev ⟨(some 22), .fld 0, [.tmp 1], none⟩,
    .ev ⟨(some 23), .load1, [.tmp 22], none⟩,
    .ev ⟨(some 24), .mv, [.tmp 5], none⟩,
    .ev ⟨(some 25), .ixS 2, [.tmp 23, .tmp 24], none⟩,
    .ev ⟨(some 26), .loadN 2, [.tmp 25], none⟩,
    .ev ⟨(some 27), .fld 0, [.tmp 1], none⟩,
    .ev ⟨(some 28), .load1, [.tmp 27], none⟩,
    .ev ⟨(some 29), .mv, [.tmp 5], none⟩,
    .ev ⟨(some 30), .bin .add .no, [.tmp 29, .const (.int .i64 1)], none⟩,
    .ev ⟨(some 31), .ixS 2, [.tmp 28, .tmp 30], none⟩,
    .ev ⟨(some 32), .loadN 2, [.tmp 31], none⟩,
    .ev ⟨(some 6), .alloc [(.int .i64 0), (.int .i64 0)], [], none⟩,
    .ev ⟨(some 7), .alloc [(.int .i64 0), (.int .i64 0)], [], none⟩,
    .ev ⟨none, .store 2, [.tmp 6, .tmp 26], none⟩,
    .again ⟨(some 28), .load1, [.tmp 27], none⟩,
    .again ⟨(some 32), .loadN 2, [.tmp 31], none⟩,
    .ev ⟨none, .store 2, [.tmp 7, .tmp 32], none⟩])
  (.seq (.reg [
    .ev ⟨(some 33), .fld 0, [.tmp 7], none⟩,
    .ev ⟨(some 34), .load1, [.tmp 33], none⟩,
    .ev ⟨(some 35), .fld 0, [.tmp 6], none⟩,
    .ev ⟨(some 36), .load1, [.tmp 35], none⟩,
    .ev ⟨(some 37), .bin .sub .no, [.tmp 34, .tmp 36], none⟩,
    .ev ⟨(some 8), .mv, [.tmp 37], none⟩])
  (.seq (.reg [
    .ev ⟨(some 38), .fld 1, [.tmp 6], none⟩,
    .ev ⟨(some 39), .load1, [.tmp 38], none⟩,
    .ev ⟨(some 40), .mv, [.tmp 8], none⟩,
    .ev ⟨(some 41), .bin .mul .no, [.tmp 39, .tmp 40], none⟩,
    .ev ⟨(some 42), .mv, [.tmp 3], none⟩,
    .ev ⟨(some 43), .bin .mul .no, [.tmp 41, .tmp 42], none⟩,
    .ev ⟨(some 44), .fld 1, [.tmp 7], none⟩,
    .ev ⟨(some 45), .load1, [.tmp 44], none⟩,
    .ev ⟨(some 46), .fld 1, [.tmp 6], none⟩,
    .ev ⟨(some 47), .load1, [.tmp 46], none⟩,
    .ev ⟨(some 48), .bin .sub .no, [.tmp 45, .tmp 47], none⟩,
    .ev ⟨(some 49), .fld 1, [.tmp 1], none⟩,
    .ev ⟨(some 50), .load1, [.tmp 49], none⟩,
    .ev ⟨(some 51), .bin .mul .no, [.const (.int .i64 1000), .tmp 50], none⟩,
    .ev ⟨(some 52), .fld 0, [.tmp 6], none⟩,
    .ev ⟨(some 53), .load1, [.tmp 52], none⟩,
    .ev ⟨(some 54), .mv, [.tmp 3], none⟩,
    .ev ⟨(some 55), .bin .mul .no, [.tmp 53, .tmp 54], none⟩,
    .ev ⟨(some 56), .bin .sub .no, [.tmp 51, .tmp 55], none⟩,
    .ev ⟨(some 57), .bin .mul .no, [.tmp 48, .tmp 56], none⟩,
    .ev ⟨(some 58), .bin .add .no, [.tmp 43, .tmp 57], none⟩,
    .ev ⟨(some 59), .mv, [.tmp 8], none⟩,
    .ev ⟨(some 60), .mv, [.tmp 3], none⟩,
    .ev ⟨(some 61), .bin .mul .no, [.tmp 59, .tmp 60], none⟩,
    .ev ⟨(some 62), .build [(.int .i64 0), (.int .i64 0)] [(0, 1), (1, 1)], [.tmp 58, .tmp 61], none⟩,
    .ev ⟨none, .store 2, [.tmp 2, .tmp 62], none⟩])
  (.ret)))))))
theorem fl75 : flatC Try.prog Try.f75.ntmps (Try.f75.body.getD .skip) = some c75 := by kernel_rfl
theorem rs75 : allSome (Try.f75.results.toList.map (flatRes Try.prog)) = some [.many 2 2] := by kernel_rfl
theorem nm75 : (Try.f75.name == "runtime.NumGoroutine") = false := by kernel_rfl
theorem nt75 : Try.f75.ntmps = 63 := by kernel_rfl
theorem gd75 : GoodF Try.prog 75 63 c75 [.many 2 2] := ⟨Try.f75, _, Try.func75, rfl, nm75, nt75, fl75, rs75⟩

/- (pencilworks/shade.ratio).up; parameters: 1; captured: 0 -/
def c76 : AC := .seq (.reg [
    .ev ⟨(some 1), .box, [.tmp 0], none⟩,
    .ev ⟨(some 2), .mv, [.const (.int .i64 0)], none⟩])
  (.seq (.reg [
    .ev ⟨(some 3), .fld 0, [.tmp 1], none⟩,
    .ev ⟨(some 4), .load1, [.tmp 3], none⟩,
    .ev ⟨(some 5), .fld 1, [.tmp 1], none⟩,
    .ev ⟨(some 6), .load1, [.tmp 5], none⟩,
    .ev ⟨(some 7), .bin .add .no, [.tmp 4, .tmp 6], none⟩,
    .ev ⟨(some 8), .bin .sub .no, [.tmp 7, .const (.int .i64 1)], none⟩,
    .ev ⟨(some 9), .fld 1, [.tmp 1], none⟩,
    .ev ⟨(some 10), .load1, [.tmp 9], none⟩,
    .ev ⟨(some 11), .bin .quo .no, [.tmp 8, .tmp 10], none⟩,
    .ev ⟨(some 2), .mv, [.tmp 11], none⟩])
  (.ret))
theorem fl76 : flatC Try.prog Try.f76.ntmps (Try.f76.body.getD .skip) = some c76 := by kernel_rfl
theorem rs76 : allSome (Try.f76.results.toList.map (flatRes Try.prog)) = some [.tmp 2] := by kernel_rfl
theorem nm76 : (Try.f76.name == "runtime.NumGoroutine") = false := by kernel_rfl
theorem nt76 : Try.f76.ntmps = 12 := by kernel_rfl
theorem gd76 : GoodF Try.prog 76 12 c76 [.tmp 2] := ⟨Try.f76, _, Try.func76, rfl, nm76, nt76, fl76, rs76⟩

/- (pencilworks/shade.ratio).down; parameters: 1; captured: 0 -/
def c77 : AC := .seq (.reg [
    .ev ⟨(some 1), .box, [.tmp 0], none⟩,
    .ev ⟨(some 2), .mv, [.const (.int .i64 0)], none⟩])
  (.seq (.reg [
    .ev ⟨(some 3), .fld 0, [.tmp 1], none⟩,
    .ev ⟨(some 4), .load1, [.tmp 3], none⟩,
    .ev ⟨(some 5), .fld 1, [.tmp 1], none⟩,
    .ev ⟨(some 6), .load1, [.tmp 5], none⟩,
    .ev ⟨(some 7), .bin .quo .no, [.tmp 4, .tmp 6], none⟩,
    .ev ⟨(some 2), .mv, [.tmp 7], none⟩])
  (.ret))
theorem fl77 : flatC Try.prog Try.f77.ntmps (Try.f77.body.getD .skip) = some c77 := by kernel_rfl
theorem rs77 : allSome (Try.f77.results.toList.map (flatRes Try.prog)) = some [.tmp 2] := by kernel_rfl
theorem nm77 : (Try.f77.name == "runtime.NumGoroutine") = false := by kernel_rfl
theorem nt77 : Try.f77.ntmps = 8 := by kernel_rfl
theorem gd77 : GoodF Try.prog 77 8 c77 [.tmp 2] := ⟨Try.f77, _, Try.func77, rfl, nm77, nt77, fl77, rs77⟩

/- (pencilworks/shade.mix).reached; parameters: 2; captured: 0 -/
def c78 : AC := .seq (.reg [
    .ev ⟨(some 2), .box, [.tmp 0], none⟩,
    .ev ⟨(some 4), .mv, [.const (.bool false)], none⟩])
  (.seq (.reg [
    .ev ⟨(some 5), .fld 0, [.tmp 2], none⟩,
    .ev ⟨(some 6), .load1, [.tmp 5], none⟩,
    .ev ⟨(some 7), .mv, [.tmp 1], none⟩,
    .ev ⟨(some 8), .bin .add .no, [.tmp 7, .const (.int .i64 1)], none⟩,
    .ev ⟨(some 9), .ixS 2, [.tmp 6, .tmp 8], none⟩,
    .ev ⟨(some 10), .fld 0, [.tmp 9], none⟩,
    .ev ⟨(some 11), .load1, [.tmp 10], none⟩,
    .ev ⟨(some 12), .fld 1, [.tmp 2], none⟩,
    .ev ⟨(some 13), .load1, [.tmp 12], none⟩,
    .ev ⟨(some 14), .fld 2, [.tmp 2], none⟩,
    .ev ⟨(some 15), .load1, [.tmp 14], none⟩,
    .ev ⟨(some 16), .bin .add .no, [.tmp 13, .tmp 15], none⟩,
    .ev ⟨(some 17), .bin .mul .no, [.tmp 11, .tmp 16], none⟩,
    .ev ⟨(some 18), .fld 1, [.tmp 2], none⟩,
    .ev ⟨(some 19), .load1, [.tmp 18], none⟩,
    .ev ⟨(some 20), .bin .mul .no, [.const (.int .i64 1000), .tmp 19], none⟩,
    .ev ⟨(some 21), .bin .geq .no, [.tmp 17, .tmp 20], none⟩,
    .ev ⟨(some 4), .mv, [.tmp 21], none⟩])
  (.ret))
theorem fl78 : flatC Try.prog Try.f78.ntmps (Try.f78.body.getD .skip) = some c78 := by kernel_rfl
theorem rs78 : allSome (Try.f78.results.toList.map (flatRes Try.prog)) = some [.tmp 4] := by kernel_rfl
theorem nm78 : (Try.f78.name == "runtime.NumGoroutine") = false := by kernel_rfl
theorem nt78 : Try.f78.ntmps = 22 := by kernel_rfl
theorem gd78 : GoodF Try.prog 78 22 c78 [.tmp 4] := ⟨Try.f78, _, Try.func78, rfl, nm78, nt78, fl78, rs78⟩

/- (pencilworks/shade.stroke).bounds; parameters: 1; captured: 0 -/
def c79 : AC := .seq (.reg [
    .ev ⟨(some 1), .box, [.tmp 0], none⟩,
    .ev ⟨(some 2), .alloc [(.int .i64 0), (.int .i64 0)], [], none⟩])
  (.seq (.reg [
    .ev ⟨(some 3), .fld 0, [.tmp 1], none⟩,
    .ev ⟨(some 4), .fld 0, [.tmp 3], none⟩,
    .ev ⟨(some 5), .fld 0, [.tmp 4], none⟩,
    .ev ⟨(some 6), .load1, [.tmp 5], none⟩,
    .ev ⟨(some 7), .bin .mul .no, [.const (.int .i64 1000), .tmp 6], none⟩,
    .ev ⟨(some 8), .fld 0, [.tmp 1], none⟩,
    .ev ⟨(some 9), .fld 2, [.tmp 8], none⟩,
    .ev ⟨(some 10), .fld 1, [.tmp 9], none⟩,
    .ev ⟨(some 11), .load1, [.tmp 10], none⟩,
    .ev ⟨(some 12), .build [(.int .i64 0), (.int .i64 0)] [(0, 1), (1, 1)], [.tmp 7, .tmp 11], none⟩,
    .ev ⟨(some 14), .fld 0, [.tmp 1], none⟩,
    .ev ⟨(some 15), .fld 0, [.tmp 14], none⟩,
    .ev ⟨(some 16), .fld 1, [.tmp 15], none⟩,
    .ev ⟨(some 17), .load1, [.tmp 16], none⟩,
    .ev ⟨(some 18), .bin .mul .no, [.const (.int .i64 1000), .tmp 17], none⟩,
    .ev ⟨(some 19), .fld 0, [.tmp 1], none⟩,
    .ev ⟨(some 20), .fld 2, [.tmp 19], none⟩,
    .ev ⟨(some 21), .fld 0, [.tmp 20], none⟩,
    .ev ⟨(some 22), .load1, [.tmp 21], none⟩,
    .ev ⟨(some 23), .build [(.int .i64 0), (.int .i64 0)] [(0, 1), (1, 1)], [.tmp 18, .tmp 22], none⟩,
    .ev ⟨(some 13), .call 76, [.tmp 12], none⟩,
    .again ⟨(some 17), .load1, [.tmp 16], none⟩,
    .again ⟨(some 22), .load1, [.tmp 21], none⟩,
    .ev ⟨(some 24), .call 77, [.tmp 23], none⟩,
    .ev ⟨(some 25), .build [(.int .i64 0), (.int .i64 0)] [(0, 1), (1, 1)], [.tmp 13, .tmp 24], none⟩,
    .ev ⟨none, .store 2, [.tmp 2, .tmp 25], none⟩])
  (.ret))
theorem fl79 : flatC Try.prog Try.f79.ntmps (Try.f79.body.getD .skip) = some c79 := by kernel_rfl
theorem rs79 : allSome (Try.f79.results.toList.map (flatRes Try.prog)) = some [.many 2 2] := by kernel_rfl
theorem nm79 : (Try.f79.name == "runtime.NumGoroutine") = false := by kernel_rfl
theorem nt79 : Try.f79.ntmps = 26 := by kernel_rfl
theorem gd79 : GoodF Try.prog 79 26 c79 [.many 2 2] := ⟨Try.f79, _, Try.func79, rfl, nm79, nt79, fl79, rs79⟩

end Go.Proofs.Ytkpafafiaicfpaa
