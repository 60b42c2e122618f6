/- Closed facts on the types of this translation. Written by gen.py. -/
import Derived.Test.YtpnmkmgnkdmniaaProg
import Derived.Test.YtpnmkmgnkdmniaaEngD
import Derived.Test.YtpnmkmgnkdmniaaEng16
import Derived.KernelRfl
namespace Go.Proofs.Ytpnmkmgnkdmniaa
open Go.Eng
theorem mixed : Try.prog.follows .mixedOrders = true := by kernel_rfl
theorem by109 : Try.prog.bytesOf 109 = 16 := by kernel_rfl
theorem by23 : Try.prog.bytesOf 23 = 24 := by kernel_rfl
theorem by3 : Try.prog.bytesOf 3 = 8 := by kernel_rfl
theorem by33 : Try.prog.bytesOf 33 = 24 := by kernel_rfl
theorem by86 : Try.prog.bytesOf 86 = 56 := by kernel_rfl
theorem bye107 : Try.prog.bytesOf (Try.prog.elem 107) = 1 := by kernel_rfl
theorem bye23 : Try.prog.bytesOf (Try.prog.elem 23) = 8 := by kernel_rfl
theorem cv123_3 : cvk Try.prog 123 3 = some .i64 := by kernel_rfl
theorem cv3_123 : cvk Try.prog 3 123 = some .u64 := by kernel_rfl
theorem el22 : Try.prog.elem 22 = 33 := by kernel_rfl
theorem el23 : Try.prog.elem 23 = 3 := by kernel_rfl
theorem el36 : Try.prog.elem 36 = 109 := by kernel_rfl
theorem el37 : Try.prog.elem 37 = 86 := by kernel_rfl
theorem el47 : Try.prog.elem 47 = 23 := by kernel_rfl
theorem es107 : esz Try.prog 107 = some 1 := by kernel_rfl
theorem es22 : esz Try.prog 22 = some 3 := by kernel_rfl
theorem es23 : esz Try.prog 23 = some 1 := by kernel_rfl
theorem es36 : esz Try.prog 36 = some 2 := by kernel_rfl
theorem es37 : esz Try.prog 37 = some 3 := by kernel_rfl
theorem es47 : esz Try.prog 47 = some 1 := by kernel_rfl
theorem es70 : esz Try.prog 70 = some 5 := by kernel_rfl
theorem f1_28_0 : fo1 Try.prog 28 0 = some 0 := by kernel_rfl
theorem fo109_0 : fof Try.prog 109 0 = some 0 := by kernel_rfl
theorem fo109_1 : fof Try.prog 109 1 = some 1 := by kernel_rfl
theorem fo25_0 : fof Try.prog 25 0 = some 0 := by kernel_rfl
theorem fo25_1 : fof Try.prog 25 1 = some 1 := by kernel_rfl
theorem fo25_2 : fof Try.prog 25 2 = some 2 := by kernel_rfl
theorem fo25_3 : fof Try.prog 25 3 = some 3 := by kernel_rfl
theorem fo25_4 : fof Try.prog 25 4 = some 4 := by kernel_rfl
theorem fo28_0 : fof Try.prog 28 0 = some 0 := by kernel_rfl
theorem fo33_0 : fof Try.prog 33 0 = some 0 := by kernel_rfl
theorem fo33_1 : fof Try.prog 33 1 = some 1 := by kernel_rfl
theorem fo33_2 : fof Try.prog 33 2 = some 2 := by kernel_rfl
theorem fo39_0 : fof Try.prog 39 0 = some 0 := by kernel_rfl
theorem fo39_1 : fof Try.prog 39 1 = some 1 := by kernel_rfl
theorem fo39_2 : fof Try.prog 39 2 = some 2 := by kernel_rfl
theorem fo39_3 : fof Try.prog 39 3 = some 3 := by kernel_rfl
theorem fo86_0 : fof Try.prog 86 0 = some 0 := by kernel_rfl
theorem fo86_1 : fof Try.prog 86 1 = some 1 := by kernel_rfl
theorem fo86_2 : fof Try.prog 86 2 = some 2 := by kernel_rfl
theorem io28 : intsOf Try.prog 28 2 = true := by kernel_rfl
theorem pl109 : places Try.prog 109 = some [(0, 1), (1, 1)] := by kernel_rfl
theorem pl25 : places Try.prog 25 = some [(0, 1), (1, 1), (2, 1), (3, 1), (4, 1)] := by kernel_rfl
theorem pl28 : places Try.prog 28 = some [(0, 1), (1, 1)] := by kernel_rfl
theorem pl33 : places Try.prog 33 = some [(0, 1), (1, 1), (2, 1)] := by kernel_rfl
theorem pl39 : places Try.prog 39 = some [(0, 1), (1, 1), (2, 1), (3, 1)] := by kernel_rfl
theorem pl86 : places Try.prog 86 = some [(0, 1), (1, 1), (2, 1)] := by kernel_rfl
theorem ub4 : Try.prog.underlying 4 = some .bool := by kernel_rfl
theorem vs109 : vsz Try.prog 109 = some (true, 2) := by kernel_rfl
theorem vs22 : vsz Try.prog 22 = some (false, 1) := by kernel_rfl
theorem vs23 : vsz Try.prog 23 = some (false, 1) := by kernel_rfl
theorem vs25 : vsz Try.prog 25 = some (true, 5) := by kernel_rfl
theorem vs28 : vsz Try.prog 28 = some (true, 2) := by kernel_rfl
theorem vs3 : vsz Try.prog 3 = some (false, 1) := by kernel_rfl
theorem vs33 : vsz Try.prog 33 = some (true, 3) := by kernel_rfl
theorem vs36 : vsz Try.prog 36 = some (false, 1) := by kernel_rfl
theorem vs37 : vsz Try.prog 37 = some (false, 1) := by kernel_rfl
theorem vs39 : vsz Try.prog 39 = some (true, 4) := by kernel_rfl
theorem vs4 : vsz Try.prog 4 = some (false, 1) := by kernel_rfl
theorem vs47 : vsz Try.prog 47 = some (false, 1) := by kernel_rfl
theorem vs86 : vsz Try.prog 86 = some (true, 3) := by kernel_rfl
theorem vs88 : vsz Try.prog 88 = some (false, 1) := by kernel_rfl
theorem zc109 : zcells Try.prog 109 = some [.int .i64 0, .int .i64 0] := by kernel_rfl
theorem zc23 : zcells Try.prog 23 = some [.slice none 0 0] := by kernel_rfl
theorem zc25 : zcells Try.prog 25 = some [.int .i64 0, .int .i64 0, .slice none 0 0, .int .i64 0, .slice none 0 0] := by kernel_rfl
theorem zc28 : zcells Try.prog 28 = some [.int .i64 0, .int .i64 0] := by kernel_rfl
theorem zc3 : zcells Try.prog 3 = some [.int .i64 0] := by kernel_rfl
theorem zc33 : zcells Try.prog 33 = some [.int .i64 0, .int .i64 0, .int .i64 0] := by kernel_rfl
theorem zc39 : zcells Try.prog 39 = some [.slice none 0 0, .slice none 0 0, .slice none 0 0, .slice none 0 0] := by kernel_rfl
theorem zc86 : zcells Try.prog 86 = some [.slice none 0 0, .slice none 0 0, .int .i64 0] := by kernel_rfl
theorem zc88 : zcells Try.prog 88 = some [.nilFunc] := by kernel_rfl
theorem ze107 : zcells Try.prog (Try.prog.elem 107) = some [.bool false] := by kernel_rfl
theorem ze22 : zcells Try.prog (Try.prog.elem 22) = some [.int .i64 0, .int .i64 0, .int .i64 0] := by kernel_rfl
theorem ze23 : zcells Try.prog (Try.prog.elem 23) = some [.int .i64 0] := by kernel_rfl
theorem ze36 : zcells Try.prog (Try.prog.elem 36) = some [.int .i64 0, .int .i64 0] := by kernel_rfl
theorem ze37 : zcells Try.prog (Try.prog.elem 37) = some [.slice none 0 0, .slice none 0 0, .int .i64 0] := by kernel_rfl
theorem ze47 : zcells Try.prog (Try.prog.elem 47) = some [.slice none 0 0] := by kernel_rfl
theorem ze70 : zcells Try.prog (Try.prog.elem 70) = some [.int .i64 0, .int .i64 0, .slice none 0 0, .int .i64 0, .slice none 0 0] := by kernel_rfl
end Go.Proofs.Ytpnmkmgnkdmniaa
