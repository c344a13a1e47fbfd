/- Facts on the types of the program. -/
import Derived.Test.YteheedbhmggcgaaVyJ
import Derived.Test.YteheedbhmggcgaaProg
namespace Go.Proofs.Yteheedbhmggcgaa
open Go Go.Vy Go.Proofs
theorem mixed : Try.prog.follows .mixedOrders = true := by kernel_rfl
theorem u3 : Try.prog.underlying 3 = some (.int .i64) := by kernel_rfl
theorem tk3 : tk Try.prog 3 = some (false, 1) := by kernel_rfl
theorem hz3 : hasZero Try.prog 3 = true := by kernel_rfl
theorem ld3 (H : Hp) (a : Addr) : ld Try.prog H 3 a = ldc H a := ldS tk3 H a
theorem st3 (H : Hp) (a : Addr) (v : Value) : st Try.prog H 3 a v = if v.cells.size = 1 then stn H a v.cells.toList else none := st_ tk3 H a v
theorem zc3 : zc Try.prog 3 = [(.int .i64 0)] := by kernel_rfl
theorem zv3 : zv Try.prog 3 = (.int .i64 0) := by kernel_rfl
theorem u4 : Try.prog.underlying 4 = some (.bool) := by kernel_rfl
theorem tk4 : tk Try.prog 4 = some (false, 1) := by kernel_rfl
theorem hz4 : hasZero Try.prog 4 = true := by kernel_rfl
theorem ld4 (H : Hp) (a : Addr) : ld Try.prog H 4 a = ldc H a := ldS tk4 H a
theorem st4 (H : Hp) (a : Addr) (v : Value) : st Try.prog H 4 a v = if v.cells.size = 1 then stn H a v.cells.toList else none := st_ tk4 H a v
theorem zc4 : zc Try.prog 4 = [(.bool false)] := by kernel_rfl
theorem zv4 : zv Try.prog 4 = (.bool false) := by kernel_rfl
theorem u9 : Try.prog.underlying 9 = some (.string) := by kernel_rfl
theorem tk9 : tk Try.prog 9 = some (false, 1) := by kernel_rfl
theorem hz9 : hasZero Try.prog 9 = true := by kernel_rfl
theorem ld9 (H : Hp) (a : Addr) : ld Try.prog H 9 a = ldc H a := ldS tk9 H a
theorem st9 (H : Hp) (a : Addr) (v : Value) : st Try.prog H 9 a v = if v.cells.size = 1 then stn H a v.cells.toList else none := st_ tk9 H a v
theorem zc9 : zc Try.prog 9 = [(.string ⟨#[]⟩)] := by kernel_rfl
theorem zv9 : zv Try.prog 9 = (.string ⟨#[]⟩) := by kernel_rfl
theorem u22 : Try.prog.underlying 22 = some (.slice 9) := by kernel_rfl
theorem tk22 : tk Try.prog 22 = some (false, 1) := by kernel_rfl
theorem hz22 : hasZero Try.prog 22 = true := by kernel_rfl
theorem ld22 (H : Hp) (a : Addr) : ld Try.prog H 22 a = ldc H a := ldS tk22 H a
theorem st22 (H : Hp) (a : Addr) (v : Value) : st Try.prog H 22 a v = if v.cells.size = 1 then stn H a v.cells.toList else none := st_ tk22 H a v
theorem ixk22 : ixk Try.prog 22 = some (none, 1) := by kernel_rfl
theorem slT22 : slT Try.prog 22 = some (9, 1, 16) := by kernel_rfl
theorem zc22 : zc Try.prog 22 = [(.slice none 0 0)] := by kernel_rfl
theorem zv22 : zv Try.prog 22 = (.slice none 0 0) := by kernel_rfl
theorem u23 : Try.prog.underlying 23 = some (.slice 42) := by kernel_rfl
theorem tk23 : tk Try.prog 23 = some (false, 1) := by kernel_rfl
theorem hz23 : hasZero Try.prog 23 = true := by kernel_rfl
theorem ld23 (H : Hp) (a : Addr) : ld Try.prog H 23 a = ldc H a := ldS tk23 H a
theorem st23 (H : Hp) (a : Addr) (v : Value) : st Try.prog H 23 a v = if v.cells.size = 1 then stn H a v.cells.toList else none := st_ tk23 H a v
theorem ixk23 : ixk Try.prog 23 = some (none, 2) := by kernel_rfl
theorem slT23 : slT Try.prog 23 = some (42, 2, 16) := by kernel_rfl
theorem zc23 : zc Try.prog 23 = [(.slice none 0 0)] := by kernel_rfl
theorem zv23 : zv Try.prog 23 = (.slice none 0 0) := by kernel_rfl
theorem u24 : Try.prog.underlying 24 = some (.slice 110) := by kernel_rfl
theorem tk24 : tk Try.prog 24 = some (false, 1) := by kernel_rfl
theorem hz24 : hasZero Try.prog 24 = true := by kernel_rfl
theorem ld24 (H : Hp) (a : Addr) : ld Try.prog H 24 a = ldc H a := ldS tk24 H a
theorem st24 (H : Hp) (a : Addr) (v : Value) : st Try.prog H 24 a v = if v.cells.size = 1 then stn H a v.cells.toList else none := st_ tk24 H a v
theorem ixk24 : ixk Try.prog 24 = some (none, 2) := by kernel_rfl
theorem slT24 : slT Try.prog 24 = some (110, 2, 24) := by kernel_rfl
theorem zc24 : zc Try.prog 24 = [(.slice none 0 0)] := by kernel_rfl
theorem zv24 : zv Try.prog 24 = (.slice none 0 0) := by kernel_rfl
theorem u25 : Try.prog.underlying 25 = some (.slice 44) := by kernel_rfl
theorem tk25 : tk Try.prog 25 = some (false, 1) := by kernel_rfl
theorem hz25 : hasZero Try.prog 25 = true := by kernel_rfl
theorem ld25 (H : Hp) (a : Addr) : ld Try.prog H 25 a = ldc H a := ldS tk25 H a
theorem st25 (H : Hp) (a : Addr) (v : Value) : st Try.prog H 25 a v = if v.cells.size = 1 then stn H a v.cells.toList else none := st_ tk25 H a v
theorem ixk25 : ixk Try.prog 25 = some (none, 4) := by kernel_rfl
theorem slT25 : slT Try.prog 25 = some (44, 4, 48) := by kernel_rfl
theorem zc25 : zc Try.prog 25 = [(.slice none 0 0)] := by kernel_rfl
theorem zv25 : zv Try.prog 25 = (.slice none 0 0) := by kernel_rfl
theorem tk27 : tk Try.prog 27 = some (true, 5) := by kernel_rfl
theorem hz27 : hasZero Try.prog 27 = true := by kernel_rfl
theorem ld27 (H : Hp) (a : Addr) : ld Try.prog H 27 a = (ldn H 5 a).map fun l => .agg l.toArray := ldA tk27 H a
theorem st27 (H : Hp) (a : Addr) (v : Value) : st Try.prog H 27 a v = if v.cells.size = 5 then stn H a v.cells.toList else none := st_ tk27 H a v
theorem fld27_0 : fld Try.prog 27 0 = some (false, 0, 1) := by kernel_rfl
theorem fld27_1 : fld Try.prog 27 1 = some (false, 1, 1) := by kernel_rfl
theorem fld27_2 : fld Try.prog 27 2 = some (false, 2, 1) := by kernel_rfl
theorem fld27_3 : fld Try.prog 27 3 = some (false, 3, 1) := by kernel_rfl
theorem fld27_4 : fld Try.prog 27 4 = some (false, 4, 1) := by kernel_rfl
theorem plc27 : plc Try.prog 27 = some (fun i => [(0, 1), (1, 1), (2, 1), (3, 1), (4, 1)][i]?) := by kernel_rfl
theorem zc27 : zc Try.prog 27 = [(.slice none 0 0), (.slice none 0 0), (.slice none 0 0), (.slice none 0 0), (.slice none 0 0)] := by kernel_rfl
theorem u28 : Try.prog.underlying 28 = some (.slice 3) := by kernel_rfl
theorem tk28 : tk Try.prog 28 = some (false, 1) := by kernel_rfl
theorem hz28 : hasZero Try.prog 28 = true := by kernel_rfl
theorem ld28 (H : Hp) (a : Addr) : ld Try.prog H 28 a = ldc H a := ldS tk28 H a
theorem st28 (H : Hp) (a : Addr) (v : Value) : st Try.prog H 28 a v = if v.cells.size = 1 then stn H a v.cells.toList else none := st_ tk28 H a v
theorem ixk28 : ixk Try.prog 28 = some (none, 1) := by kernel_rfl
theorem slT28 : slT Try.prog 28 = some (3, 1, 8) := by kernel_rfl
theorem zc28 : zc Try.prog 28 = [(.slice none 0 0)] := by kernel_rfl
theorem zv28 : zv Try.prog 28 = (.slice none 0 0) := by kernel_rfl
theorem u30 : Try.prog.underlying 30 = some (.int .i64) := by kernel_rfl
theorem tk30 : tk Try.prog 30 = some (false, 1) := by kernel_rfl
theorem hz30 : hasZero Try.prog 30 = true := by kernel_rfl
theorem ld30 (H : Hp) (a : Addr) : ld Try.prog H 30 a = ldc H a := ldS tk30 H a
theorem st30 (H : Hp) (a : Addr) (v : Value) : st Try.prog H 30 a v = if v.cells.size = 1 then stn H a v.cells.toList else none := st_ tk30 H a v
theorem zc30 : zc Try.prog 30 = [(.int .i64 0)] := by kernel_rfl
theorem zv30 : zv Try.prog 30 = (.int .i64 0) := by kernel_rfl
theorem u39 : Try.prog.underlying 39 = some (.array 2 3) := by kernel_rfl
theorem tk39 : tk Try.prog 39 = some (true, 2) := by kernel_rfl
theorem hz39 : hasZero Try.prog 39 = true := by kernel_rfl
theorem ld39 (H : Hp) (a : Addr) : ld Try.prog H 39 a = (ldn H 2 a).map fun l => .agg l.toArray := ldA tk39 H a
theorem st39 (H : Hp) (a : Addr) (v : Value) : st Try.prog H 39 a v = if v.cells.size = 2 then stn H a v.cells.toList else none := st_ tk39 H a v
theorem ixk39 : ixk Try.prog 39 = some (some 2, 1) := by kernel_rfl
theorem zc39 : zc Try.prog 39 = [(.int .i64 0), (.int .i64 0)] := by kernel_rfl
theorem tk42 : tk Try.prog 42 = some (true, 2) := by kernel_rfl
theorem hz42 : hasZero Try.prog 42 = true := by kernel_rfl
theorem ld42 (H : Hp) (a : Addr) : ld Try.prog H 42 a = (ldn H 2 a).map fun l => .agg l.toArray := ldA tk42 H a
theorem st42 (H : Hp) (a : Addr) (v : Value) : st Try.prog H 42 a v = if v.cells.size = 2 then stn H a v.cells.toList else none := st_ tk42 H a v
theorem fld42_0 : fld Try.prog 42 0 = some (false, 0, 1) := by kernel_rfl
theorem fld42_1 : fld Try.prog 42 1 = some (false, 1, 1) := by kernel_rfl
theorem plc42 : plc Try.prog 42 = some (fun i => [(0, 1), (1, 1)][i]?) := by kernel_rfl
theorem zc42 : zc Try.prog 42 = [(.int .i64 0), (.int .i64 0)] := by kernel_rfl
theorem tk44 : tk Try.prog 44 = some (true, 4) := by kernel_rfl
theorem hz44 : hasZero Try.prog 44 = true := by kernel_rfl
theorem ld44 (H : Hp) (a : Addr) : ld Try.prog H 44 a = (ldn H 4 a).map fun l => .agg l.toArray := ldA tk44 H a
theorem st44 (H : Hp) (a : Addr) (v : Value) : st Try.prog H 44 a v = if v.cells.size = 4 then stn H a v.cells.toList else none := st_ tk44 H a v
theorem fld44_0 : fld Try.prog 44 0 = some (false, 0, 1) := by kernel_rfl
theorem fld44_1 : fld Try.prog 44 1 = some (false, 1, 1) := by kernel_rfl
theorem fld44_2 : fld Try.prog 44 2 = some (true, 2, 2) := by kernel_rfl
theorem plc44 : plc Try.prog 44 = some (fun i => [(0, 1), (1, 1), (2, 2)][i]?) := by kernel_rfl
theorem zc44 : zc Try.prog 44 = [(.int .i64 0), (.slice none 0 0), (.int .i64 0), (.int .i64 0)] := by kernel_rfl
theorem u52 : Try.prog.underlying 52 = some (.slice 4) := by kernel_rfl
theorem tk52 : tk Try.prog 52 = some (false, 1) := by kernel_rfl
theorem hz52 : hasZero Try.prog 52 = true := by kernel_rfl
theorem ld52 (H : Hp) (a : Addr) : ld Try.prog H 52 a = ldc H a := ldS tk52 H a
theorem st52 (H : Hp) (a : Addr) (v : Value) : st Try.prog H 52 a v = if v.cells.size = 1 then stn H a v.cells.toList else none := st_ tk52 H a v
theorem ixk52 : ixk Try.prog 52 = some (none, 1) := by kernel_rfl
theorem slT52 : slT Try.prog 52 = some (4, 1, 1) := by kernel_rfl
theorem zc52 : zc Try.prog 52 = [(.slice none 0 0)] := by kernel_rfl
theorem zv52 : zv Try.prog 52 = (.slice none 0 0) := by kernel_rfl
theorem u53 : Try.prog.underlying 53 = some (.slice 52) := by kernel_rfl
theorem tk53 : tk Try.prog 53 = some (false, 1) := by kernel_rfl
theorem hz53 : hasZero Try.prog 53 = true := by kernel_rfl
theorem ld53 (H : Hp) (a : Addr) : ld Try.prog H 53 a = ldc H a := ldS tk53 H a
theorem st53 (H : Hp) (a : Addr) (v : Value) : st Try.prog H 53 a v = if v.cells.size = 1 then stn H a v.cells.toList else none := st_ tk53 H a v
theorem ixk53 : ixk Try.prog 53 = some (none, 1) := by kernel_rfl
theorem slT53 : slT Try.prog 53 = some (52, 1, 24) := by kernel_rfl
theorem zc53 : zc Try.prog 53 = [(.slice none 0 0)] := by kernel_rfl
theorem zv53 : zv Try.prog 53 = (.slice none 0 0) := by kernel_rfl
theorem tk55 : tk Try.prog 55 = some (true, 8) := by kernel_rfl
theorem hz55 : hasZero Try.prog 55 = true := by kernel_rfl
theorem ld55 (H : Hp) (a : Addr) : ld Try.prog H 55 a = (ldn H 8 a).map fun l => .agg l.toArray := ldA tk55 H a
theorem st55 (H : Hp) (a : Addr) (v : Value) : st Try.prog H 55 a v = if v.cells.size = 8 then stn H a v.cells.toList else none := st_ tk55 H a v
theorem fld55_0 : fld Try.prog 55 0 = some (true, 0, 5) := by kernel_rfl
theorem fld55_1 : fld Try.prog 55 1 = some (false, 5, 1) := by kernel_rfl
theorem fld55_2 : fld Try.prog 55 2 = some (false, 6, 1) := by kernel_rfl
theorem fld55_3 : fld Try.prog 55 3 = some (false, 7, 1) := by kernel_rfl
theorem plc55 : plc Try.prog 55 = some (fun i => [(0, 5), (5, 1), (6, 1), (7, 1)][i]?) := by kernel_rfl
theorem zc55 : zc Try.prog 55 = [(.slice none 0 0), (.slice none 0 0), (.slice none 0 0), (.slice none 0 0), (.slice none 0 0), (.slice none 0 0), (.slice none 0 0), (.slice none 0 0)] := by kernel_rfl
theorem u58 : Try.prog.underlying 58 = some (.pointer 66) := by kernel_rfl
theorem tk58 : tk Try.prog 58 = some (false, 1) := by kernel_rfl
theorem hz58 : hasZero Try.prog 58 = true := by kernel_rfl
theorem ld58 (H : Hp) (a : Addr) : ld Try.prog H 58 a = ldc H a := ldS tk58 H a
theorem st58 (H : Hp) (a : Addr) (v : Value) : st Try.prog H 58 a v = if v.cells.size = 1 then stn H a v.cells.toList else none := st_ tk58 H a v
theorem zc58 : zc Try.prog 58 = [(.pointer none)] := by kernel_rfl
theorem zv58 : zv Try.prog 58 = (.pointer none) := by kernel_rfl
theorem u61 : Try.prog.underlying 61 = some (.map 68 4) := by kernel_rfl
theorem tk61 : tk Try.prog 61 = some (false, 1) := by kernel_rfl
theorem hz61 : hasZero Try.prog 61 = true := by kernel_rfl
theorem ld61 (H : Hp) (a : Addr) : ld Try.prog H 61 a = ldc H a := ldS tk61 H a
theorem st61 (H : Hp) (a : Addr) (v : Value) : st Try.prog H 61 a v = if v.cells.size = 1 then stn H a v.cells.toList else none := st_ tk61 H a v
theorem zc61 : zc Try.prog 61 = [(.map none)] := by kernel_rfl
theorem zv61 : zv Try.prog 61 = (.map none) := by kernel_rfl
theorem u62 : Try.prog.underlying 62 = some (.slice 68) := by kernel_rfl
theorem tk62 : tk Try.prog 62 = some (false, 1) := by kernel_rfl
theorem hz62 : hasZero Try.prog 62 = true := by kernel_rfl
theorem ld62 (H : Hp) (a : Addr) : ld Try.prog H 62 a = ldc H a := ldS tk62 H a
theorem st62 (H : Hp) (a : Addr) (v : Value) : st Try.prog H 62 a v = if v.cells.size = 1 then stn H a v.cells.toList else none := st_ tk62 H a v
theorem ixk62 : ixk Try.prog 62 = some (none, 3) := by kernel_rfl
theorem slT62 : slT Try.prog 62 = some (68, 3, 24) := by kernel_rfl
theorem zc62 : zc Try.prog 62 = [(.slice none 0 0)] := by kernel_rfl
theorem zv62 : zv Try.prog 62 = (.slice none 0 0) := by kernel_rfl
theorem u63 : Try.prog.underlying 63 = some (.array 61 62) := by kernel_rfl
theorem tk63 : tk Try.prog 63 = some (true, 61) := by kernel_rfl
theorem hz63 : hasZero Try.prog 63 = true := by kernel_rfl
theorem ld63 (H : Hp) (a : Addr) : ld Try.prog H 63 a = (ldn H 61 a).map fun l => .agg l.toArray := ldA tk63 H a
theorem st63 (H : Hp) (a : Addr) (v : Value) : st Try.prog H 63 a v = if v.cells.size = 61 then stn H a v.cells.toList else none := st_ tk63 H a v
theorem ixk63 : ixk Try.prog 63 = some (some 61, 1) := by kernel_rfl
theorem zc63 : zc Try.prog 63 = List.replicate 61 (.slice none 0 0) := by kernel_rfl
theorem u64 : Try.prog.underlying 64 = some (.array 61 61) := by kernel_rfl
theorem tk64 : tk Try.prog 64 = some (true, 61) := by kernel_rfl
theorem hz64 : hasZero Try.prog 64 = true := by kernel_rfl
theorem ld64 (H : Hp) (a : Addr) : ld Try.prog H 64 a = (ldn H 61 a).map fun l => .agg l.toArray := ldA tk64 H a
theorem st64 (H : Hp) (a : Addr) (v : Value) : st Try.prog H 64 a v = if v.cells.size = 61 then stn H a v.cells.toList else none := st_ tk64 H a v
theorem ixk64 : ixk Try.prog 64 = some (some 61, 1) := by kernel_rfl
theorem zc64 : zc Try.prog 64 = List.replicate 61 (.map none) := by kernel_rfl
theorem tk66 : tk Try.prog 66 = some (true, 128) := by kernel_rfl
theorem hz66 : hasZero Try.prog 66 = true := by kernel_rfl
theorem ld66 (H : Hp) (a : Addr) : ld Try.prog H 66 a = (ldn H 128 a).map fun l => .agg l.toArray := ldA tk66 H a
theorem st66 (H : Hp) (a : Addr) (v : Value) : st Try.prog H 66 a v = if v.cells.size = 128 then stn H a v.cells.toList else none := st_ tk66 H a v
theorem fld66_0 : fld Try.prog 66 0 = some (true, 0, 5) := by kernel_rfl
theorem fld66_1 : fld Try.prog 66 1 = some (false, 5, 1) := by kernel_rfl
theorem fld66_2 : fld Try.prog 66 2 = some (true, 6, 61) := by kernel_rfl
theorem fld66_3 : fld Try.prog 66 3 = some (true, 67, 61) := by kernel_rfl
theorem plc66 : plc Try.prog 66 = some (fun i => [(0, 5), (5, 1), (6, 61), (67, 61)][i]?) := by kernel_rfl
theorem zc66 : zc Try.prog 66 = [(.slice none 0 0), (.slice none 0 0), (.slice none 0 0), (.slice none 0 0), (.slice none 0 0), (.slice none 0 0)] ++ List.replicate 61 (.slice none 0 0) ++ List.replicate 61 (.map none) := by kernel_rfl
theorem tk68 : tk Try.prog 68 = some (true, 3) := by kernel_rfl
theorem hz68 : hasZero Try.prog 68 = true := by kernel_rfl
theorem ld68 (H : Hp) (a : Addr) : ld Try.prog H 68 a = (ldn H 3 a).map fun l => .agg l.toArray := ldA tk68 H a
theorem st68 (H : Hp) (a : Addr) (v : Value) : st Try.prog H 68 a v = if v.cells.size = 3 then stn H a v.cells.toList else none := st_ tk68 H a v
theorem fld68_0 : fld Try.prog 68 0 = some (false, 0, 1) := by kernel_rfl
theorem fld68_1 : fld Try.prog 68 1 = some (false, 1, 1) := by kernel_rfl
theorem fld68_2 : fld Try.prog 68 2 = some (false, 2, 1) := by kernel_rfl
theorem plc68 : plc Try.prog 68 = some (fun i => [(0, 1), (1, 1), (2, 1)][i]?) := by kernel_rfl
theorem zc68 : zc Try.prog 68 = [(.int .i64 0), (.int .i64 0), (.int .i64 0)] := by kernel_rfl
theorem u70 : Try.prog.underlying 70 = some (.pointer 73) := by kernel_rfl
theorem tk70 : tk Try.prog 70 = some (false, 1) := by kernel_rfl
theorem hz70 : hasZero Try.prog 70 = true := by kernel_rfl
theorem ld70 (H : Hp) (a : Addr) : ld Try.prog H 70 a = ldc H a := ldS tk70 H a
theorem st70 (H : Hp) (a : Addr) (v : Value) : st Try.prog H 70 a v = if v.cells.size = 1 then stn H a v.cells.toList else none := st_ tk70 H a v
theorem zc70 : zc Try.prog 70 = [(.pointer none)] := by kernel_rfl
theorem zv70 : zv Try.prog 70 = (.pointer none) := by kernel_rfl
theorem u71 : Try.prog.underlying 71 = some (.map 75 3) := by kernel_rfl
theorem tk71 : tk Try.prog 71 = some (false, 1) := by kernel_rfl
theorem hz71 : hasZero Try.prog 71 = true := by kernel_rfl
theorem ld71 (H : Hp) (a : Addr) : ld Try.prog H 71 a = ldc H a := ldS tk71 H a
theorem st71 (H : Hp) (a : Addr) (v : Value) : st Try.prog H 71 a v = if v.cells.size = 1 then stn H a v.cells.toList else none := st_ tk71 H a v
theorem zc71 : zc Try.prog 71 = [(.map none)] := by kernel_rfl
theorem zv71 : zv Try.prog 71 = (.map none) := by kernel_rfl
theorem tk73 : tk Try.prog 73 = some (true, 7) := by kernel_rfl
theorem hz73 : hasZero Try.prog 73 = true := by kernel_rfl
theorem ld73 (H : Hp) (a : Addr) : ld Try.prog H 73 a = (ldn H 7 a).map fun l => .agg l.toArray := ldA tk73 H a
theorem st73 (H : Hp) (a : Addr) (v : Value) : st Try.prog H 73 a v = if v.cells.size = 7 then stn H a v.cells.toList else none := st_ tk73 H a v
theorem fld73_0 : fld Try.prog 73 0 = some (true, 0, 5) := by kernel_rfl
theorem fld73_1 : fld Try.prog 73 1 = some (false, 5, 1) := by kernel_rfl
theorem fld73_2 : fld Try.prog 73 2 = some (false, 6, 1) := by kernel_rfl
theorem plc73 : plc Try.prog 73 = some (fun i => [(0, 5), (5, 1), (6, 1)][i]?) := by kernel_rfl
theorem zc73 : zc Try.prog 73 = [(.slice none 0 0), (.slice none 0 0), (.slice none 0 0), (.slice none 0 0), (.slice none 0 0), (.slice none 0 0), (.map none)] := by kernel_rfl
theorem tk75 : tk Try.prog 75 = some (true, 3) := by kernel_rfl
theorem hz75 : hasZero Try.prog 75 = true := by kernel_rfl
theorem ld75 (H : Hp) (a : Addr) : ld Try.prog H 75 a = (ldn H 3 a).map fun l => .agg l.toArray := ldA tk75 H a
theorem st75 (H : Hp) (a : Addr) (v : Value) : st Try.prog H 75 a v = if v.cells.size = 3 then stn H a v.cells.toList else none := st_ tk75 H a v
theorem fld75_0 : fld Try.prog 75 0 = some (false, 0, 1) := by kernel_rfl
theorem fld75_1 : fld Try.prog 75 1 = some (false, 1, 1) := by kernel_rfl
theorem fld75_2 : fld Try.prog 75 2 = some (false, 2, 1) := by kernel_rfl
theorem plc75 : plc Try.prog 75 = some (fun i => [(0, 1), (1, 1), (2, 1)][i]?) := by kernel_rfl
theorem zc75 : zc Try.prog 75 = [(.int .i64 0), (.int .i64 0), (.int .i64 0)] := by kernel_rfl
theorem u79 : Try.prog.underlying 79 = some (.pointer 55) := by kernel_rfl
theorem tk79 : tk Try.prog 79 = some (false, 1) := by kernel_rfl
theorem hz79 : hasZero Try.prog 79 = true := by kernel_rfl
theorem ld79 (H : Hp) (a : Addr) : ld Try.prog H 79 a = ldc H a := ldS tk79 H a
theorem st79 (H : Hp) (a : Addr) (v : Value) : st Try.prog H 79 a v = if v.cells.size = 1 then stn H a v.cells.toList else none := st_ tk79 H a v
theorem zc79 : zc Try.prog 79 = [(.pointer none)] := by kernel_rfl
theorem zv79 : zv Try.prog 79 = (.pointer none) := by kernel_rfl
theorem tk110 : tk Try.prog 110 = some (true, 2) := by kernel_rfl
theorem hz110 : hasZero Try.prog 110 = true := by kernel_rfl
theorem ld110 (H : Hp) (a : Addr) : ld Try.prog H 110 a = (ldn H 2 a).map fun l => .agg l.toArray := ldA tk110 H a
theorem st110 (H : Hp) (a : Addr) (v : Value) : st Try.prog H 110 a v = if v.cells.size = 2 then stn H a v.cells.toList else none := st_ tk110 H a v
theorem fld110_0 : fld Try.prog 110 0 = some (false, 0, 1) := by kernel_rfl
theorem fld110_1 : fld Try.prog 110 1 = some (false, 1, 1) := by kernel_rfl
theorem plc110 : plc Try.prog 110 = some (fun i => [(0, 1), (1, 1)][i]?) := by kernel_rfl
theorem zc110 : zc Try.prog 110 = [(.int .i64 0), (.string ⟨#[]⟩)] := by kernel_rfl
end Go.Proofs.Yteheedbhmggcgaa
