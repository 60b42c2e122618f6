/- Closed facts on the types of this translation. Written by gen.py. -/
import Derived.Test.YtofjjeogoobopaaProg
import Derived.Test.YtofjjeogoobopaaEngD
import Derived.Test.YtofjjeogoobopaaEng15
import Derived.KernelRfl
namespace Go.Proofs.Ytofjjeogoobopaa
open Go.Eng
theorem mixed : Try.prog.follows .mixedOrders = true := by kernel_rfl
theorem by106 : Try.prog.bytesOf 106 = 24 := by kernel_rfl
theorem by22 : Try.prog.bytesOf 22 = 24 := by kernel_rfl
theorem by3 : Try.prog.bytesOf 3 = 8 := by kernel_rfl
theorem by60 : Try.prog.bytesOf 60 = 56 := by kernel_rfl
theorem by88 : Try.prog.bytesOf 88 = 16 := by kernel_rfl
theorem bye110 : Try.prog.bytesOf (Try.prog.elem 110) = 1 := by kernel_rfl
theorem bye22 : Try.prog.bytesOf (Try.prog.elem 22) = 8 := by kernel_rfl
theorem cv120_3 : cvk Try.prog 120 3 = some .i64 := by kernel_rfl
theorem cv3_120 : cvk Try.prog 3 120 = some .u64 := by kernel_rfl
theorem el22 : Try.prog.elem 22 = 3 := by kernel_rfl
theorem el23 : Try.prog.elem 23 = 88 := by kernel_rfl
theorem el24 : Try.prog.elem 24 = 60 := by kernel_rfl
theorem el27 : Try.prog.elem 27 = 22 := by kernel_rfl
theorem el77 : Try.prog.elem 77 = 106 := by kernel_rfl
theorem es110 : esz Try.prog 110 = some 1 := by kernel_rfl
theorem es22 : esz Try.prog 22 = some 1 := by kernel_rfl
theorem es23 : esz Try.prog 23 = some 2 := by kernel_rfl
theorem es24 : esz Try.prog 24 = some 3 := by kernel_rfl
theorem es27 : esz Try.prog 27 = some 1 := by kernel_rfl
theorem es51 : esz Try.prog 51 = some 1 := by kernel_rfl
theorem es77 : esz Try.prog 77 = some 3 := by kernel_rfl
theorem f1_30_0 : fo1 Try.prog 30 0 = some 0 := by kernel_rfl
theorem fo106_0 : fof Try.prog 106 0 = some 0 := by kernel_rfl
theorem fo106_1 : fof Try.prog 106 1 = some 1 := by kernel_rfl
theorem fo106_2 : fof Try.prog 106 2 = some 2 := by kernel_rfl
theorem fo26_0 : fof Try.prog 26 0 = some 0 := by kernel_rfl
theorem fo26_1 : fof Try.prog 26 1 = some 1 := by kernel_rfl
theorem fo26_2 : fof Try.prog 26 2 = some 2 := by kernel_rfl
theorem fo26_3 : fof Try.prog 26 3 = some 3 := by kernel_rfl
theorem fo30_0 : fof Try.prog 30 0 = some 0 := by kernel_rfl
theorem fo60_0 : fof Try.prog 60 0 = some 0 := by kernel_rfl
theorem fo60_1 : fof Try.prog 60 1 = some 1 := by kernel_rfl
theorem fo60_2 : fof Try.prog 60 2 = some 2 := by kernel_rfl
theorem fo79_0 : fof Try.prog 79 0 = some 0 := by kernel_rfl
theorem fo79_1 : fof Try.prog 79 1 = some 1 := by kernel_rfl
theorem fo79_2 : fof Try.prog 79 2 = some 2 := by kernel_rfl
theorem fo79_3 : fof Try.prog 79 3 = some 3 := by kernel_rfl
theorem fo79_4 : fof Try.prog 79 4 = some 4 := by kernel_rfl
theorem fo88_0 : fof Try.prog 88 0 = some 0 := by kernel_rfl
theorem fo88_1 : fof Try.prog 88 1 = some 1 := by kernel_rfl
theorem io30 : intsOf Try.prog 30 2 = true := by kernel_rfl
theorem io88 : intsOf Try.prog 88 2 = true := by kernel_rfl
theorem pl106 : places Try.prog 106 = some [(0, 1), (1, 1), (2, 1)] := by kernel_rfl
theorem pl26 : places Try.prog 26 = some [(0, 1), (1, 1), (2, 1), (3, 1)] := by kernel_rfl
theorem pl30 : places Try.prog 30 = some [(0, 1), (1, 1)] := by kernel_rfl
theorem pl60 : places Try.prog 60 = some [(0, 1), (1, 1), (2, 1)] := by kernel_rfl
theorem pl79 : places Try.prog 79 = some [(0, 1), (1, 1), (2, 1), (3, 1), (4, 1)] := by kernel_rfl
theorem pl88 : places Try.prog 88 = some [(0, 1), (1, 1)] := by kernel_rfl
theorem ub4 : Try.prog.underlying 4 = some .bool := by kernel_rfl
theorem vs106 : vsz Try.prog 106 = some (true, 3) := by kernel_rfl
theorem vs22 : vsz Try.prog 22 = some (false, 1) := by kernel_rfl
theorem vs23 : vsz Try.prog 23 = some (false, 1) := by kernel_rfl
theorem vs24 : vsz Try.prog 24 = some (false, 1) := by kernel_rfl
theorem vs26 : vsz Try.prog 26 = some (true, 4) := by kernel_rfl
theorem vs27 : vsz Try.prog 27 = some (false, 1) := by kernel_rfl
theorem vs3 : vsz Try.prog 3 = some (false, 1) := by kernel_rfl
theorem vs30 : vsz Try.prog 30 = some (true, 2) := by kernel_rfl
theorem vs4 : vsz Try.prog 4 = some (false, 1) := by kernel_rfl
theorem vs60 : vsz Try.prog 60 = some (true, 3) := by kernel_rfl
theorem vs77 : vsz Try.prog 77 = some (false, 1) := by kernel_rfl
theorem vs79 : vsz Try.prog 79 = some (true, 5) := by kernel_rfl
theorem vs88 : vsz Try.prog 88 = some (true, 2) := by kernel_rfl
theorem zc106 : zcells Try.prog 106 = some [.int .i64 0, .int .i64 0, .int .i64 0] := by kernel_rfl
theorem zc22 : zcells Try.prog 22 = some [.slice none 0 0] := by kernel_rfl
theorem zc26 : zcells Try.prog 26 = some [.slice none 0 0, .slice none 0 0, .slice none 0 0, .slice none 0 0] := by kernel_rfl
theorem zc3 : zcells Try.prog 3 = some [.int .i64 0] := by kernel_rfl
theorem zc30 : zcells Try.prog 30 = some [.int .i64 0, .int .i64 0] := by kernel_rfl
theorem zc60 : zcells Try.prog 60 = some [.slice none 0 0, .slice none 0 0, .int .i64 0] := by kernel_rfl
theorem zc79 : zcells Try.prog 79 = some [.int .i64 0, .int .i64 0, .slice none 0 0, .int .i64 0, .slice none 0 0] := by kernel_rfl
theorem zc88 : zcells Try.prog 88 = some [.int .i64 0, .int .i64 0] := by kernel_rfl
theorem ze110 : zcells Try.prog (Try.prog.elem 110) = some [.bool false] := by kernel_rfl
theorem ze22 : zcells Try.prog (Try.prog.elem 22) = some [.int .i64 0] := by kernel_rfl
theorem ze23 : zcells Try.prog (Try.prog.elem 23) = some [.int .i64 0, .int .i64 0] := by kernel_rfl
theorem ze24 : zcells Try.prog (Try.prog.elem 24) = some [.slice none 0 0, .slice none 0 0, .int .i64 0] := by kernel_rfl
theorem ze27 : zcells Try.prog (Try.prog.elem 27) = some [.slice none 0 0] := by kernel_rfl
theorem ze77 : zcells Try.prog (Try.prog.elem 77) = some [.int .i64 0, .int .i64 0, .int .i64 0] := by kernel_rfl
end Go.Proofs.Ytofjjeogoobopaa
