/- Closed facts on the types of this translation. Written by gen.py. -/
import Derived.Test.YtohlmcebphcokaaProg
import Derived.Test.YtohlmcebphcokaaEngD
import Derived.Test.YtohlmcebphcokaaEng21
import Derived.KernelRfl
namespace Go.Proofs.Ytohlmcebphcokaa
open Go.Eng
theorem mixed : Try.prog.follows .mixedOrders = true := by kernel_rfl
theorem by22 : Try.prog.bytesOf 22 = 24 := by kernel_rfl
theorem by3 : Try.prog.bytesOf 3 = 8 := by kernel_rfl
theorem by46 : Try.prog.bytesOf 46 = 72 := by kernel_rfl
theorem by81 : Try.prog.bytesOf 81 = 56 := by kernel_rfl
theorem by90 : Try.prog.bytesOf 90 = 16 := by kernel_rfl
theorem by93 : Try.prog.bytesOf 93 = 24 := by kernel_rfl
theorem bye22 : Try.prog.bytesOf (Try.prog.elem 22) = 8 := by kernel_rfl
theorem cv125_3 : cvk Try.prog 125 3 = some .i64 := by kernel_rfl
theorem cv3_125 : cvk Try.prog 3 125 = some .u64 := by kernel_rfl
theorem el22 : Try.prog.elem 22 = 3 := by kernel_rfl
theorem el23 : Try.prog.elem 23 = 90 := by kernel_rfl
theorem el24 : Try.prog.elem 24 = 81 := by kernel_rfl
theorem el34 : Try.prog.elem 34 = 46 := by kernel_rfl
theorem el37 : Try.prog.elem 37 = 22 := by kernel_rfl
theorem el44 : Try.prog.elem 44 = 93 := by kernel_rfl
theorem es22 : esz Try.prog 22 = some 1 := by kernel_rfl
theorem es23 : esz Try.prog 23 = some 2 := by kernel_rfl
theorem es24 : esz Try.prog 24 = some 3 := by kernel_rfl
theorem es34 : esz Try.prog 34 = some 5 := by kernel_rfl
theorem es37 : esz Try.prog 37 = some 1 := by kernel_rfl
theorem es44 : esz Try.prog 44 = some 3 := by kernel_rfl
theorem f1_29_0 : fo1 Try.prog 29 0 = some 0 := by kernel_rfl
theorem fo26_0 : fof Try.prog 26 0 = some 0 := by kernel_rfl
theorem fo26_1 : fof Try.prog 26 1 = some 1 := by kernel_rfl
theorem fo26_2 : fof Try.prog 26 2 = some 2 := by kernel_rfl
theorem fo26_3 : fof Try.prog 26 3 = some 3 := by kernel_rfl
theorem fo29_0 : fof Try.prog 29 0 = some 0 := by kernel_rfl
theorem fo46_0 : fof Try.prog 46 0 = some 0 := by kernel_rfl
theorem fo46_1 : fof Try.prog 46 1 = some 1 := by kernel_rfl
theorem fo46_2 : fof Try.prog 46 2 = some 2 := by kernel_rfl
theorem fo46_3 : fof Try.prog 46 3 = some 3 := by kernel_rfl
theorem fo46_4 : fof Try.prog 46 4 = some 4 := by kernel_rfl
theorem fo81_0 : fof Try.prog 81 0 = some 0 := by kernel_rfl
theorem fo81_1 : fof Try.prog 81 1 = some 1 := by kernel_rfl
theorem fo81_2 : fof Try.prog 81 2 = some 2 := by kernel_rfl
theorem fo90_0 : fof Try.prog 90 0 = some 0 := by kernel_rfl
theorem fo90_1 : fof Try.prog 90 1 = some 1 := by kernel_rfl
theorem fo93_0 : fof Try.prog 93 0 = some 0 := by kernel_rfl
theorem fo93_1 : fof Try.prog 93 1 = some 1 := by kernel_rfl
theorem fo93_2 : fof Try.prog 93 2 = some 2 := by kernel_rfl
theorem io29 : intsOf Try.prog 29 2 = true := by kernel_rfl
theorem io93 : intsOf Try.prog 93 3 = true := by kernel_rfl
theorem pl26 : places Try.prog 26 = some [(0, 1), (1, 1), (2, 1), (3, 1)] := by kernel_rfl
theorem pl29 : places Try.prog 29 = some [(0, 1), (1, 1)] := by kernel_rfl
theorem pl46 : places Try.prog 46 = some [(0, 1), (1, 1), (2, 1), (3, 1), (4, 1)] := by kernel_rfl
theorem pl81 : places Try.prog 81 = some [(0, 1), (1, 1), (2, 1)] := by kernel_rfl
theorem pl90 : places Try.prog 90 = some [(0, 1), (1, 1)] := by kernel_rfl
theorem pl93 : places Try.prog 93 = some [(0, 1), (1, 1), (2, 1)] := by kernel_rfl
theorem vs22 : vsz Try.prog 22 = some (false, 1) := by kernel_rfl
theorem vs23 : vsz Try.prog 23 = some (false, 1) := by kernel_rfl
theorem vs24 : vsz Try.prog 24 = some (false, 1) := by kernel_rfl
theorem vs26 : vsz Try.prog 26 = some (true, 4) := by kernel_rfl
theorem vs29 : vsz Try.prog 29 = some (true, 2) := by kernel_rfl
theorem vs3 : vsz Try.prog 3 = some (false, 1) := by kernel_rfl
theorem vs44 : vsz Try.prog 44 = some (false, 1) := by kernel_rfl
theorem vs46 : vsz Try.prog 46 = some (true, 5) := by kernel_rfl
theorem vs81 : vsz Try.prog 81 = some (true, 3) := by kernel_rfl
theorem vs90 : vsz Try.prog 90 = some (true, 2) := by kernel_rfl
theorem vs93 : vsz Try.prog 93 = some (true, 3) := by kernel_rfl
theorem zc22 : zcells Try.prog 22 = some [.slice none 0 0] := by kernel_rfl
theorem zc26 : zcells Try.prog 26 = some [.slice none 0 0, .slice none 0 0, .slice none 0 0, .slice none 0 0] := by kernel_rfl
theorem zc29 : zcells Try.prog 29 = some [.int .i64 0, .int .i64 0] := by kernel_rfl
theorem zc3 : zcells Try.prog 3 = some [.int .i64 0] := by kernel_rfl
theorem zc46 : zcells Try.prog 46 = some [.int .i64 0, .int .i64 0, .slice none 0 0, .int .i64 0, .slice none 0 0] := by kernel_rfl
theorem zc81 : zcells Try.prog 81 = some [.slice none 0 0, .slice none 0 0, .int .i64 0] := by kernel_rfl
theorem zc90 : zcells Try.prog 90 = some [.int .i64 0, .int .i64 0] := by kernel_rfl
theorem zc93 : zcells Try.prog 93 = some [.int .i64 0, .int .i64 0, .int .i64 0] := by kernel_rfl
theorem ze22 : zcells Try.prog (Try.prog.elem 22) = some [.int .i64 0] := by kernel_rfl
theorem ze23 : zcells Try.prog (Try.prog.elem 23) = some [.int .i64 0, .int .i64 0] := by kernel_rfl
theorem ze24 : zcells Try.prog (Try.prog.elem 24) = some [.slice none 0 0, .slice none 0 0, .int .i64 0] := by kernel_rfl
theorem ze34 : zcells Try.prog (Try.prog.elem 34) = some [.int .i64 0, .int .i64 0, .slice none 0 0, .int .i64 0, .slice none 0 0] := by kernel_rfl
theorem ze37 : zcells Try.prog (Try.prog.elem 37) = some [.slice none 0 0] := by kernel_rfl
theorem ze44 : zcells Try.prog (Try.prog.elem 44) = some [.int .i64 0, .int .i64 0, .int .i64 0] := by kernel_rfl
end Go.Proofs.Ytohlmcebphcokaa
