/- The types of this program, as the machine reads them: by program. -/
import Derived.Test.YtleimfinniclgaaDoorProg
import Derived.Test.YtleimfinniclgaaDoorMJ
import Derived.KernelRfl
namespace Go.Proofs.YtleimfinniclgaaDoor.M
open Go.Proofs
set_option maxRecDepth 100000
@[simp] theorem sz1 : sizeT Tryd.prog 1 = 1 := by kernel_rfl
@[simp] theorem ag1 : isAggT Tryd.prog 1 = some false := by kernel_rfl
@[simp] theorem zc1 : zcells Tryd.prog 1 = some [(.nilf, false)] := by kernel_rfl
@[simp] theorem zt1 : zeroT Tryd.prog 1 = true := by kernel_rfl
@[simp] theorem sz2 : sizeT Tryd.prog 2 = 1 := by kernel_rfl
@[simp] theorem ag2 : isAggT Tryd.prog 2 = some false := by kernel_rfl
@[simp] theorem zc2 : zcells Tryd.prog 2 = some [(.int .i64 0, false)] := by kernel_rfl
@[simp] theorem zt2 : zeroT Tryd.prog 2 = true := by kernel_rfl
@[simp] theorem sz3 : sizeT Tryd.prog 3 = 1 := by kernel_rfl
@[simp] theorem ag3 : isAggT Tryd.prog 3 = some false := by kernel_rfl
@[simp] theorem zc3 : zcells Tryd.prog 3 = some [(.int .i64 0, false)] := by kernel_rfl
@[simp] theorem zt3 : zeroT Tryd.prog 3 = true := by kernel_rfl
@[simp] theorem sz4 : sizeT Tryd.prog 4 = 1 := by kernel_rfl
@[simp] theorem ag4 : isAggT Tryd.prog 4 = some false := by kernel_rfl
@[simp] theorem zc4 : zcells Tryd.prog 4 = some [(.bool false, false)] := by kernel_rfl
@[simp] theorem zt4 : zeroT Tryd.prog 4 = true := by kernel_rfl
@[simp] theorem un4 : Tryd.prog.underlying 4 = some .bool := by kernel_rfl
@[simp] theorem sz5 : sizeT Tryd.prog 5 = 1 := by kernel_rfl
@[simp] theorem ag5 : isAggT Tryd.prog 5 = some false := by kernel_rfl
@[simp] theorem zc5 : zcells Tryd.prog 5 = some [(.int .u8 0, false)] := by kernel_rfl
@[simp] theorem zt5 : zeroT Tryd.prog 5 = true := by kernel_rfl
@[simp] theorem sz6 : sizeT Tryd.prog 6 = 1 := by kernel_rfl
@[simp] theorem ag6 : isAggT Tryd.prog 6 = some false := by kernel_rfl
@[simp] theorem zc6 : zcells Tryd.prog 6 = some [(.int .u8 0, false)] := by kernel_rfl
@[simp] theorem zt6 : zeroT Tryd.prog 6 = true := by kernel_rfl
@[simp] theorem sz7 : sizeT Tryd.prog 7 = 4 := by kernel_rfl
@[simp] theorem ag7 : isAggT Tryd.prog 7 = some true := by kernel_rfl
@[simp] theorem zt7 : zeroT Tryd.prog 7 = true := by kernel_rfl
@[simp] theorem sz8 : sizeT Tryd.prog 8 = 4 := by kernel_rfl
@[simp] theorem ag8 : isAggT Tryd.prog 8 = some true := by kernel_rfl
@[simp] theorem zt8 : zeroT Tryd.prog 8 = true := by kernel_rfl
@[simp] theorem sz9 : sizeT Tryd.prog 9 = 1 := by kernel_rfl
@[simp] theorem ag9 : isAggT Tryd.prog 9 = some false := by kernel_rfl
@[simp] theorem zc9 : zcells Tryd.prog 9 = some [(.str ByteArray.empty, false)] := by kernel_rfl
@[simp] theorem zt9 : zeroT Tryd.prog 9 = true := by kernel_rfl
@[simp] theorem un9 : Tryd.prog.underlying 9 = some .string := by kernel_rfl
@[simp] theorem sz10 : sizeT Tryd.prog 10 = 1 := by kernel_rfl
@[simp] theorem ag10 : isAggT Tryd.prog 10 = some false := by kernel_rfl
@[simp] theorem zc10 : zcells Tryd.prog 10 = some [(.str ByteArray.empty, false)] := by kernel_rfl
@[simp] theorem zt10 : zeroT Tryd.prog 10 = true := by kernel_rfl
@[simp] theorem un10 : Tryd.prog.underlying 10 = some .string := by kernel_rfl
@[simp] theorem sz11 : sizeT Tryd.prog 11 = 1 := by kernel_rfl
@[simp] theorem ag11 : isAggT Tryd.prog 11 = some false := by kernel_rfl
@[simp] theorem zc11 : zcells Tryd.prog 11 = some [(.str ByteArray.empty, false)] := by kernel_rfl
@[simp] theorem zt11 : zeroT Tryd.prog 11 = true := by kernel_rfl
@[simp] theorem un11 : Tryd.prog.underlying 11 = some .string := by kernel_rfl
@[simp] theorem sz12 : sizeT Tryd.prog 12 = 1 := by kernel_rfl
@[simp] theorem ag12 : isAggT Tryd.prog 12 = some false := by kernel_rfl
@[simp] theorem zc12 : zcells Tryd.prog 12 = some [(.int .u64 0, false)] := by kernel_rfl
@[simp] theorem zt12 : zeroT Tryd.prog 12 = true := by kernel_rfl
@[simp] theorem sz13 : sizeT Tryd.prog 13 = 2 := by kernel_rfl
@[simp] theorem ag13 : isAggT Tryd.prog 13 = some true := by kernel_rfl
@[simp] theorem zt13 : zeroT Tryd.prog 13 = true := by kernel_rfl
@[simp] theorem sz14 : sizeT Tryd.prog 14 = 2 := by kernel_rfl
@[simp] theorem ag14 : isAggT Tryd.prog 14 = some true := by kernel_rfl
@[simp] theorem zt14 : zeroT Tryd.prog 14 = true := by kernel_rfl
@[simp] theorem sz15 : sizeT Tryd.prog 15 = 1 := by kernel_rfl
@[simp] theorem ag15 : isAggT Tryd.prog 15 = some false := by kernel_rfl
@[simp] theorem zc15 : zcells Tryd.prog 15 = some [(.nilp, false)] := by kernel_rfl
@[simp] theorem zt15 : zeroT Tryd.prog 15 = true := by kernel_rfl
@[simp] theorem sz16 : sizeT Tryd.prog 16 = 1 := by kernel_rfl
@[simp] theorem ag16 : isAggT Tryd.prog 16 = some false := by kernel_rfl
@[simp] theorem zc16 : zcells Tryd.prog 16 = some [(.nilp, false)] := by kernel_rfl
@[simp] theorem zt16 : zeroT Tryd.prog 16 = true := by kernel_rfl
@[simp] theorem sz17 : sizeT Tryd.prog 17 = 1 := by kernel_rfl
@[simp] theorem ag17 : isAggT Tryd.prog 17 = some false := by kernel_rfl
@[simp] theorem zc17 : zcells Tryd.prog 17 = some [(.nilp, false)] := by kernel_rfl
@[simp] theorem zt17 : zeroT Tryd.prog 17 = true := by kernel_rfl
@[simp] theorem sz18 : sizeT Tryd.prog 18 = 1 := by kernel_rfl
@[simp] theorem ag18 : isAggT Tryd.prog 18 = some true := by kernel_rfl
@[simp] theorem zc18 : zcells Tryd.prog 18 = some [(.nilp, false)] := by kernel_rfl
@[simp] theorem zt18 : zeroT Tryd.prog 18 = true := by kernel_rfl
@[simp] theorem fa18_0 (x : AVal) : afield Tryd.prog 18 x 0 = ashift 0 x := by kernel_rfl
@[simp] theorem fv18_0 (cs : List AVal) : afieldv Tryd.prog 18 (.agg cs) 0 = cs[0]? := by kernel_rfl
@[simp] theorem bd18 (nl : Bool) (ps : List (Nat × AVal)) : abuild Tryd.prog nl 18 ps = afillL [(0, 1)] (if nl then [.nilp] else [.nilp]) ps := by cases nl <;> kernel_rfl
@[simp] theorem sz19 : sizeT Tryd.prog 19 = 1 := by kernel_rfl
@[simp] theorem ag19 : isAggT Tryd.prog 19 = some true := by kernel_rfl
@[simp] theorem zc19 : zcells Tryd.prog 19 = some [(.nilp, false)] := by kernel_rfl
@[simp] theorem zt19 : zeroT Tryd.prog 19 = true := by kernel_rfl
@[simp] theorem fa19_0 (x : AVal) : afield Tryd.prog 19 x 0 = ashift 0 x := by kernel_rfl
@[simp] theorem fv19_0 (cs : List AVal) : afieldv Tryd.prog 19 (.agg cs) 0 = cs[0]? := by kernel_rfl
@[simp] theorem bd19 (nl : Bool) (ps : List (Nat × AVal)) : abuild Tryd.prog nl 19 ps = afillL [(0, 1)] (if nl then [.nilp] else [.nilp]) ps := by cases nl <;> kernel_rfl
@[simp] theorem sz21 : sizeT Tryd.prog 21 = 1 := by kernel_rfl
@[simp] theorem ag21 : isAggT Tryd.prog 21 = some false := by kernel_rfl
@[simp] theorem zc21 : zcells Tryd.prog 21 = some [(.int .i32 0, false)] := by kernel_rfl
@[simp] theorem zt21 : zeroT Tryd.prog 21 = true := by kernel_rfl
@[simp] theorem sz22 : sizeT Tryd.prog 22 = 1 := by kernel_rfl
@[simp] theorem ag22 : isAggT Tryd.prog 22 = some false := by kernel_rfl
@[simp] theorem zc22 : zcells Tryd.prog 22 = some [(.lst [], true)] := by kernel_rfl
@[simp] theorem zt22 : zeroT Tryd.prog 22 = true := by kernel_rfl
@[simp] theorem un22 : Tryd.prog.underlying 22 = some (.slice 3) := by kernel_rfl
@[simp] theorem st22 : slT Tryd.prog 22 = true := by kernel_rfl
@[simp] theorem ai22 : apInfo Tryd.prog 22 = some (3, 8, 1, false) := by kernel_rfl
@[simp] theorem sz23 : sizeT Tryd.prog 23 = 1 := by kernel_rfl
@[simp] theorem ag23 : isAggT Tryd.prog 23 = some false := by kernel_rfl
@[simp] theorem zc23 : zcells Tryd.prog 23 = some [(.nilp, false)] := by kernel_rfl
@[simp] theorem zt23 : zeroT Tryd.prog 23 = true := by kernel_rfl
@[simp] theorem sz24 : sizeT Tryd.prog 24 = 2 := by kernel_rfl
@[simp] theorem ag24 : isAggT Tryd.prog 24 = some true := by kernel_rfl
@[simp] theorem zc24 : zcells Tryd.prog 24 = some [(.lst [], true), (.int .i64 0, false)] := by kernel_rfl
@[simp] theorem zt24 : zeroT Tryd.prog 24 = true := by kernel_rfl
@[simp] theorem fa24_0 (x : AVal) : afield Tryd.prog 24 x 0 = ashift 0 x := by kernel_rfl
@[simp] theorem fv24_0 (cs : List AVal) : afieldv Tryd.prog 24 (.agg cs) 0 = cs[0]? := by kernel_rfl
@[simp] theorem fa24_1 (x : AVal) : afield Tryd.prog 24 x 1 = ashift 1 x := by kernel_rfl
@[simp] theorem fv24_1 (cs : List AVal) : afieldv Tryd.prog 24 (.agg cs) 1 = cs[1]? := by kernel_rfl
@[simp] theorem bd24 (nl : Bool) (ps : List (Nat × AVal)) : abuild Tryd.prog nl 24 ps = afillL [(0, 1), (1, 1)] (if nl then [.nils, .int .i64 0] else [.lst [], .int .i64 0]) ps := by cases nl <;> kernel_rfl
@[simp] theorem sz25 : sizeT Tryd.prog 25 = 2 := by kernel_rfl
@[simp] theorem ag25 : isAggT Tryd.prog 25 = some true := by kernel_rfl
@[simp] theorem zc25 : zcells Tryd.prog 25 = some [(.lst [], true), (.int .i64 0, false)] := by kernel_rfl
@[simp] theorem zt25 : zeroT Tryd.prog 25 = true := by kernel_rfl
@[simp] theorem fa25_0 (x : AVal) : afield Tryd.prog 25 x 0 = ashift 0 x := by kernel_rfl
@[simp] theorem fv25_0 (cs : List AVal) : afieldv Tryd.prog 25 (.agg cs) 0 = cs[0]? := by kernel_rfl
@[simp] theorem fa25_1 (x : AVal) : afield Tryd.prog 25 x 1 = ashift 1 x := by kernel_rfl
@[simp] theorem fv25_1 (cs : List AVal) : afieldv Tryd.prog 25 (.agg cs) 1 = cs[1]? := by kernel_rfl
@[simp] theorem bd25 (nl : Bool) (ps : List (Nat × AVal)) : abuild Tryd.prog nl 25 ps = afillL [(0, 1), (1, 1)] (if nl then [.nils, .int .i64 0] else [.lst [], .int .i64 0]) ps := by cases nl <;> kernel_rfl
@[simp] theorem sz26 : sizeT Tryd.prog 26 = 1 := by kernel_rfl
@[simp] theorem ag26 : isAggT Tryd.prog 26 = some false := by kernel_rfl
@[simp] theorem zc26 : zcells Tryd.prog 26 = some [(.lst [], true)] := by kernel_rfl
@[simp] theorem zt26 : zeroT Tryd.prog 26 = true := by kernel_rfl
@[simp] theorem un26 : Tryd.prog.underlying 26 = some (.slice 28) := by kernel_rfl
@[simp] theorem st26 : slT Tryd.prog 26 = true := by kernel_rfl
@[simp] theorem ai26 : apInfo Tryd.prog 26 = some (28, 56, 4, true) := by kernel_rfl
@[simp] theorem sz27 : sizeT Tryd.prog 27 = 4 := by kernel_rfl
@[simp] theorem ag27 : isAggT Tryd.prog 27 = some true := by kernel_rfl
@[simp] theorem zc27 : zcells Tryd.prog 27 = some [(.int .i64 0, false), (.int .i64 0, false), (.str ByteArray.empty, false), (.lst [], true)] := by kernel_rfl
@[simp] theorem zt27 : zeroT Tryd.prog 27 = true := by kernel_rfl
@[simp] theorem fa27_0 (x : AVal) : afield Tryd.prog 27 x 0 = ashift 0 x := by kernel_rfl
@[simp] theorem fv27_0 (cs : List AVal) : afieldv Tryd.prog 27 (.agg cs) 0 = cs[0]? := by kernel_rfl
@[simp] theorem fa27_1 (x : AVal) : afield Tryd.prog 27 x 1 = ashift 1 x := by kernel_rfl
@[simp] theorem fv27_1 (cs : List AVal) : afieldv Tryd.prog 27 (.agg cs) 1 = cs[1]? := by kernel_rfl
@[simp] theorem fa27_2 (x : AVal) : afield Tryd.prog 27 x 2 = ashift 2 x := by kernel_rfl
@[simp] theorem fv27_2 (cs : List AVal) : afieldv Tryd.prog 27 (.agg cs) 2 = cs[2]? := by kernel_rfl
@[simp] theorem fa27_3 (x : AVal) : afield Tryd.prog 27 x 3 = ashift 3 x := by kernel_rfl
@[simp] theorem fv27_3 (cs : List AVal) : afieldv Tryd.prog 27 (.agg cs) 3 = cs[3]? := by kernel_rfl
@[simp] theorem bd27 (nl : Bool) (ps : List (Nat × AVal)) : abuild Tryd.prog nl 27 ps = afillL [(0, 1), (1, 1), (2, 1), (3, 1)] (if nl then [.int .i64 0, .int .i64 0, .str ByteArray.empty, .nils] else [.int .i64 0, .int .i64 0, .str ByteArray.empty, .lst []]) ps := by cases nl <;> kernel_rfl
@[simp] theorem sz28 : sizeT Tryd.prog 28 = 4 := by kernel_rfl
@[simp] theorem ag28 : isAggT Tryd.prog 28 = some true := by kernel_rfl
@[simp] theorem zc28 : zcells Tryd.prog 28 = some [(.int .i64 0, false), (.int .i64 0, false), (.str ByteArray.empty, false), (.lst [], true)] := by kernel_rfl
@[simp] theorem zt28 : zeroT Tryd.prog 28 = true := by kernel_rfl
@[simp] theorem fa28_0 (x : AVal) : afield Tryd.prog 28 x 0 = ashift 0 x := by kernel_rfl
@[simp] theorem fv28_0 (cs : List AVal) : afieldv Tryd.prog 28 (.agg cs) 0 = cs[0]? := by kernel_rfl
@[simp] theorem fa28_1 (x : AVal) : afield Tryd.prog 28 x 1 = ashift 1 x := by kernel_rfl
@[simp] theorem fv28_1 (cs : List AVal) : afieldv Tryd.prog 28 (.agg cs) 1 = cs[1]? := by kernel_rfl
@[simp] theorem fa28_2 (x : AVal) : afield Tryd.prog 28 x 2 = ashift 2 x := by kernel_rfl
@[simp] theorem fv28_2 (cs : List AVal) : afieldv Tryd.prog 28 (.agg cs) 2 = cs[2]? := by kernel_rfl
@[simp] theorem fa28_3 (x : AVal) : afield Tryd.prog 28 x 3 = ashift 3 x := by kernel_rfl
@[simp] theorem fv28_3 (cs : List AVal) : afieldv Tryd.prog 28 (.agg cs) 3 = cs[3]? := by kernel_rfl
@[simp] theorem bd28 (nl : Bool) (ps : List (Nat × AVal)) : abuild Tryd.prog nl 28 ps = afillL [(0, 1), (1, 1), (2, 1), (3, 1)] (if nl then [.int .i64 0, .int .i64 0, .str ByteArray.empty, .nils] else [.int .i64 0, .int .i64 0, .str ByteArray.empty, .lst []]) ps := by cases nl <;> kernel_rfl
@[simp] theorem sz29 : sizeT Tryd.prog 29 = 1 := by kernel_rfl
@[simp] theorem ag29 : isAggT Tryd.prog 29 = some false := by kernel_rfl
@[simp] theorem zc29 : zcells Tryd.prog 29 = some [(.nilf, false)] := by kernel_rfl
@[simp] theorem zt29 : zeroT Tryd.prog 29 = true := by kernel_rfl
@[simp] theorem sz30 : sizeT Tryd.prog 30 = 1 := by kernel_rfl
@[simp] theorem ag30 : isAggT Tryd.prog 30 = some false := by kernel_rfl
@[simp] theorem zc30 : zcells Tryd.prog 30 = some [(.lst [], true)] := by kernel_rfl
@[simp] theorem zt30 : zeroT Tryd.prog 30 = true := by kernel_rfl
@[simp] theorem un30 : Tryd.prog.underlying 30 = some (.slice 52) := by kernel_rfl
@[simp] theorem st30 : slT Tryd.prog 30 = true := by kernel_rfl
@[simp] theorem ai30 : apInfo Tryd.prog 30 = some (52, 32, 3, true) := by kernel_rfl
@[simp] theorem sz31 : sizeT Tryd.prog 31 = 1 := by kernel_rfl
@[simp] theorem ag31 : isAggT Tryd.prog 31 = some false := by kernel_rfl
@[simp] theorem zc31 : zcells Tryd.prog 31 = some [(.nilf, false)] := by kernel_rfl
@[simp] theorem zt31 : zeroT Tryd.prog 31 = true := by kernel_rfl
@[simp] theorem sz32 : sizeT Tryd.prog 32 = 1 := by kernel_rfl
@[simp] theorem ag32 : isAggT Tryd.prog 32 = some false := by kernel_rfl
@[simp] theorem zc32 : zcells Tryd.prog 32 = some [(.int .i64 0, false)] := by kernel_rfl
@[simp] theorem zt32 : zeroT Tryd.prog 32 = true := by kernel_rfl
@[simp] theorem sz34 : sizeT Tryd.prog 34 = 1 := by kernel_rfl
@[simp] theorem ag34 : isAggT Tryd.prog 34 = some false := by kernel_rfl
@[simp] theorem zc34 : zcells Tryd.prog 34 = some [(.nilf, false)] := by kernel_rfl
@[simp] theorem zt34 : zeroT Tryd.prog 34 = true := by kernel_rfl
@[simp] theorem sz35 : sizeT Tryd.prog 35 = 1 := by kernel_rfl
@[simp] theorem ag35 : isAggT Tryd.prog 35 = some false := by kernel_rfl
@[simp] theorem zc35 : zcells Tryd.prog 35 = some [(.nilf, false)] := by kernel_rfl
@[simp] theorem zt35 : zeroT Tryd.prog 35 = true := by kernel_rfl
@[simp] theorem sz36 : sizeT Tryd.prog 36 = 1 := by kernel_rfl
@[simp] theorem ag36 : isAggT Tryd.prog 36 = some false := by kernel_rfl
@[simp] theorem zc36 : zcells Tryd.prog 36 = some [(.nilf, false)] := by kernel_rfl
@[simp] theorem zt36 : zeroT Tryd.prog 36 = true := by kernel_rfl
@[simp] theorem sz37 : sizeT Tryd.prog 37 = 1 := by kernel_rfl
@[simp] theorem ag37 : isAggT Tryd.prog 37 = some false := by kernel_rfl
@[simp] theorem zc37 : zcells Tryd.prog 37 = some [(.nilf, false)] := by kernel_rfl
@[simp] theorem zt37 : zeroT Tryd.prog 37 = true := by kernel_rfl
@[simp] theorem sz39 : sizeT Tryd.prog 39 = 1 := by kernel_rfl
@[simp] theorem ag39 : isAggT Tryd.prog 39 = some false := by kernel_rfl
@[simp] theorem zc39 : zcells Tryd.prog 39 = some [(.nilf, false)] := by kernel_rfl
@[simp] theorem zt39 : zeroT Tryd.prog 39 = true := by kernel_rfl
@[simp] theorem sz40 : sizeT Tryd.prog 40 = 1 := by kernel_rfl
@[simp] theorem ag40 : isAggT Tryd.prog 40 = some false := by kernel_rfl
@[simp] theorem zc40 : zcells Tryd.prog 40 = some [(.nilf, false)] := by kernel_rfl
@[simp] theorem zt40 : zeroT Tryd.prog 40 = true := by kernel_rfl
@[simp] theorem sz41 : sizeT Tryd.prog 41 = 1 := by kernel_rfl
@[simp] theorem ag41 : isAggT Tryd.prog 41 = some false := by kernel_rfl
@[simp] theorem zc41 : zcells Tryd.prog 41 = some [(.nilf, false)] := by kernel_rfl
@[simp] theorem zt41 : zeroT Tryd.prog 41 = true := by kernel_rfl
@[simp] theorem sz42 : sizeT Tryd.prog 42 = 1 := by kernel_rfl
@[simp] theorem ag42 : isAggT Tryd.prog 42 = some false := by kernel_rfl
@[simp] theorem zc42 : zcells Tryd.prog 42 = some [(.nilf, false)] := by kernel_rfl
@[simp] theorem zt42 : zeroT Tryd.prog 42 = true := by kernel_rfl
@[simp] theorem sz43 : sizeT Tryd.prog 43 = 1 := by kernel_rfl
@[simp] theorem ag43 : isAggT Tryd.prog 43 = some false := by kernel_rfl
@[simp] theorem zc43 : zcells Tryd.prog 43 = some [(.nilf, false)] := by kernel_rfl
@[simp] theorem zt43 : zeroT Tryd.prog 43 = true := by kernel_rfl
@[simp] theorem sz44 : sizeT Tryd.prog 44 = 1 := by kernel_rfl
@[simp] theorem ag44 : isAggT Tryd.prog 44 = some false := by kernel_rfl
@[simp] theorem zc44 : zcells Tryd.prog 44 = some [(.nilf, false)] := by kernel_rfl
@[simp] theorem zt44 : zeroT Tryd.prog 44 = true := by kernel_rfl
@[simp] theorem sz45 : sizeT Tryd.prog 45 = 1 := by kernel_rfl
@[simp] theorem ag45 : isAggT Tryd.prog 45 = some false := by kernel_rfl
@[simp] theorem zc45 : zcells Tryd.prog 45 = some [(.nilp, false)] := by kernel_rfl
@[simp] theorem zt45 : zeroT Tryd.prog 45 = true := by kernel_rfl
@[simp] theorem sz46 : sizeT Tryd.prog 46 = 1 := by kernel_rfl
@[simp] theorem ag46 : isAggT Tryd.prog 46 = some false := by kernel_rfl
@[simp] theorem zc46 : zcells Tryd.prog 46 = some [(.nilf, false)] := by kernel_rfl
@[simp] theorem zt46 : zeroT Tryd.prog 46 = true := by kernel_rfl
@[simp] theorem sz47 : sizeT Tryd.prog 47 = 1 := by kernel_rfl
@[simp] theorem ag47 : isAggT Tryd.prog 47 = some false := by kernel_rfl
@[simp] theorem zc47 : zcells Tryd.prog 47 = some [(.nilf, false)] := by kernel_rfl
@[simp] theorem zt47 : zeroT Tryd.prog 47 = true := by kernel_rfl
@[simp] theorem sz48 : sizeT Tryd.prog 48 = 1 := by kernel_rfl
@[simp] theorem ag48 : isAggT Tryd.prog 48 = some false := by kernel_rfl
@[simp] theorem zc48 : zcells Tryd.prog 48 = some [(.nilf, false)] := by kernel_rfl
@[simp] theorem zt48 : zeroT Tryd.prog 48 = true := by kernel_rfl
@[simp] theorem sz49 : sizeT Tryd.prog 49 = 1 := by kernel_rfl
@[simp] theorem ag49 : isAggT Tryd.prog 49 = some false := by kernel_rfl
@[simp] theorem zc49 : zcells Tryd.prog 49 = some [(.nilf, false)] := by kernel_rfl
@[simp] theorem zt49 : zeroT Tryd.prog 49 = true := by kernel_rfl
@[simp] theorem sz50 : sizeT Tryd.prog 50 = 1 := by kernel_rfl
@[simp] theorem ag50 : isAggT Tryd.prog 50 = some false := by kernel_rfl
@[simp] theorem zc50 : zcells Tryd.prog 50 = some [(.lst [], true)] := by kernel_rfl
@[simp] theorem zt50 : zeroT Tryd.prog 50 = true := by kernel_rfl
@[simp] theorem un50 : Tryd.prog.underlying 50 = some (.slice 9) := by kernel_rfl
@[simp] theorem st50 : slT Tryd.prog 50 = true := by kernel_rfl
@[simp] theorem ai50 : apInfo Tryd.prog 50 = some (9, 16, 1, false) := by kernel_rfl
@[simp] theorem sz51 : sizeT Tryd.prog 51 = 3 := by kernel_rfl
@[simp] theorem ag51 : isAggT Tryd.prog 51 = some true := by kernel_rfl
@[simp] theorem zc51 : zcells Tryd.prog 51 = some [(.str ByteArray.empty, false), (.int .i64 0, false), (.int .i64 0, false)] := by kernel_rfl
@[simp] theorem zt51 : zeroT Tryd.prog 51 = true := by kernel_rfl
@[simp] theorem fa51_0 (x : AVal) : afield Tryd.prog 51 x 0 = ashift 0 x := by kernel_rfl
@[simp] theorem fv51_0 (cs : List AVal) : afieldv Tryd.prog 51 (.agg cs) 0 = cs[0]? := by kernel_rfl
@[simp] theorem fa51_1 (x : AVal) : afield Tryd.prog 51 x 1 = ashift 1 x := by kernel_rfl
@[simp] theorem fv51_1 (cs : List AVal) : afieldv Tryd.prog 51 (.agg cs) 1 = cs[1]? := by kernel_rfl
@[simp] theorem fa51_2 (x : AVal) : afield Tryd.prog 51 x 2 = ashift 2 x := by kernel_rfl
@[simp] theorem fv51_2 (cs : List AVal) : afieldv Tryd.prog 51 (.agg cs) 2 = cs[2]? := by kernel_rfl
@[simp] theorem bd51 (nl : Bool) (ps : List (Nat × AVal)) : abuild Tryd.prog nl 51 ps = afillL [(0, 1), (1, 1), (2, 1)] (if nl then [.str ByteArray.empty, .int .i64 0, .int .i64 0] else [.str ByteArray.empty, .int .i64 0, .int .i64 0]) ps := by cases nl <;> kernel_rfl
@[simp] theorem sz52 : sizeT Tryd.prog 52 = 3 := by kernel_rfl
@[simp] theorem ag52 : isAggT Tryd.prog 52 = some true := by kernel_rfl
@[simp] theorem zc52 : zcells Tryd.prog 52 = some [(.str ByteArray.empty, false), (.int .i64 0, false), (.int .i64 0, false)] := by kernel_rfl
@[simp] theorem zt52 : zeroT Tryd.prog 52 = true := by kernel_rfl
@[simp] theorem fa52_0 (x : AVal) : afield Tryd.prog 52 x 0 = ashift 0 x := by kernel_rfl
@[simp] theorem fv52_0 (cs : List AVal) : afieldv Tryd.prog 52 (.agg cs) 0 = cs[0]? := by kernel_rfl
@[simp] theorem fa52_1 (x : AVal) : afield Tryd.prog 52 x 1 = ashift 1 x := by kernel_rfl
@[simp] theorem fv52_1 (cs : List AVal) : afieldv Tryd.prog 52 (.agg cs) 1 = cs[1]? := by kernel_rfl
@[simp] theorem fa52_2 (x : AVal) : afield Tryd.prog 52 x 2 = ashift 2 x := by kernel_rfl
@[simp] theorem fv52_2 (cs : List AVal) : afieldv Tryd.prog 52 (.agg cs) 2 = cs[2]? := by kernel_rfl
@[simp] theorem bd52 (nl : Bool) (ps : List (Nat × AVal)) : abuild Tryd.prog nl 52 ps = afillL [(0, 1), (1, 1), (2, 1)] (if nl then [.str ByteArray.empty, .int .i64 0, .int .i64 0] else [.str ByteArray.empty, .int .i64 0, .int .i64 0]) ps := by cases nl <;> kernel_rfl
@[simp] theorem sz53 : sizeT Tryd.prog 53 = 1 := by kernel_rfl
@[simp] theorem ag53 : isAggT Tryd.prog 53 = some false := by kernel_rfl
@[simp] theorem zc53 : zcells Tryd.prog 53 = some [(.nilp, false)] := by kernel_rfl
@[simp] theorem zt53 : zeroT Tryd.prog 53 = true := by kernel_rfl
@[simp] theorem sz54 : sizeT Tryd.prog 54 = 1 := by kernel_rfl
@[simp] theorem ag54 : isAggT Tryd.prog 54 = some false := by kernel_rfl
@[simp] theorem zc54 : zcells Tryd.prog 54 = some [(.nilm, false)] := by kernel_rfl
@[simp] theorem zt54 : zeroT Tryd.prog 54 = true := by kernel_rfl
@[simp] theorem un54 : Tryd.prog.underlying 54 = some (.map 9 56) := by kernel_rfl
@[simp] theorem sz55 : sizeT Tryd.prog 55 = 2 := by kernel_rfl
@[simp] theorem ag55 : isAggT Tryd.prog 55 = some true := by kernel_rfl
@[simp] theorem zc55 : zcells Tryd.prog 55 = some [(.int .i64 0, false), (.int .i64 0, false)] := by kernel_rfl
@[simp] theorem zt55 : zeroT Tryd.prog 55 = true := by kernel_rfl
@[simp] theorem fa55_0 (x : AVal) : afield Tryd.prog 55 x 0 = ashift 0 x := by kernel_rfl
@[simp] theorem fv55_0 (cs : List AVal) : afieldv Tryd.prog 55 (.agg cs) 0 = cs[0]? := by kernel_rfl
@[simp] theorem fa55_1 (x : AVal) : afield Tryd.prog 55 x 1 = ashift 1 x := by kernel_rfl
@[simp] theorem fv55_1 (cs : List AVal) : afieldv Tryd.prog 55 (.agg cs) 1 = cs[1]? := by kernel_rfl
@[simp] theorem bd55 (nl : Bool) (ps : List (Nat × AVal)) : abuild Tryd.prog nl 55 ps = afillL [(0, 1), (1, 1)] (if nl then [.int .i64 0, .int .i64 0] else [.int .i64 0, .int .i64 0]) ps := by cases nl <;> kernel_rfl
@[simp] theorem sz56 : sizeT Tryd.prog 56 = 2 := by kernel_rfl
@[simp] theorem ag56 : isAggT Tryd.prog 56 = some true := by kernel_rfl
@[simp] theorem zc56 : zcells Tryd.prog 56 = some [(.int .i64 0, false), (.int .i64 0, false)] := by kernel_rfl
@[simp] theorem zt56 : zeroT Tryd.prog 56 = true := by kernel_rfl
@[simp] theorem fa56_0 (x : AVal) : afield Tryd.prog 56 x 0 = ashift 0 x := by kernel_rfl
@[simp] theorem fv56_0 (cs : List AVal) : afieldv Tryd.prog 56 (.agg cs) 0 = cs[0]? := by kernel_rfl
@[simp] theorem fa56_1 (x : AVal) : afield Tryd.prog 56 x 1 = ashift 1 x := by kernel_rfl
@[simp] theorem fv56_1 (cs : List AVal) : afieldv Tryd.prog 56 (.agg cs) 1 = cs[1]? := by kernel_rfl
@[simp] theorem bd56 (nl : Bool) (ps : List (Nat × AVal)) : abuild Tryd.prog nl 56 ps = afillL [(0, 1), (1, 1)] (if nl then [.int .i64 0, .int .i64 0] else [.int .i64 0, .int .i64 0]) ps := by cases nl <;> kernel_rfl
@[simp] theorem sz57 : sizeT Tryd.prog 57 = 1 := by kernel_rfl
@[simp] theorem ag57 : isAggT Tryd.prog 57 = some false := by kernel_rfl
@[simp] theorem zc57 : zcells Tryd.prog 57 = some [(.nilf, false)] := by kernel_rfl
@[simp] theorem zt57 : zeroT Tryd.prog 57 = true := by kernel_rfl
@[simp] theorem sz58 : sizeT Tryd.prog 58 = 1 := by kernel_rfl
@[simp] theorem ag58 : isAggT Tryd.prog 58 = some false := by kernel_rfl
@[simp] theorem zc58 : zcells Tryd.prog 58 = some [(.lst [], true)] := by kernel_rfl
@[simp] theorem zt58 : zeroT Tryd.prog 58 = true := by kernel_rfl
@[simp] theorem un58 : Tryd.prog.underlying 58 = some (.slice 32) := by kernel_rfl
@[simp] theorem st58 : slT Tryd.prog 58 = true := by kernel_rfl
@[simp] theorem ai58 : apInfo Tryd.prog 58 = some (32, 8, 1, false) := by kernel_rfl
@[simp] theorem sz59 : sizeT Tryd.prog 59 = 1 := by kernel_rfl
@[simp] theorem ag59 : isAggT Tryd.prog 59 = some false := by kernel_rfl
@[simp] theorem zc59 : zcells Tryd.prog 59 = some [(.nilf, false)] := by kernel_rfl
@[simp] theorem zt59 : zeroT Tryd.prog 59 = true := by kernel_rfl
@[simp] theorem sz60 : sizeT Tryd.prog 60 = 1 := by kernel_rfl
@[simp] theorem ag60 : isAggT Tryd.prog 60 = some false := by kernel_rfl
@[simp] theorem zc60 : zcells Tryd.prog 60 = some [(.nilf, false)] := by kernel_rfl
@[simp] theorem zt60 : zeroT Tryd.prog 60 = true := by kernel_rfl
@[simp] theorem sz61 : sizeT Tryd.prog 61 = 1 := by kernel_rfl
@[simp] theorem ag61 : isAggT Tryd.prog 61 = some false := by kernel_rfl
@[simp] theorem zc61 : zcells Tryd.prog 61 = some [(.nilf, false)] := by kernel_rfl
@[simp] theorem zt61 : zeroT Tryd.prog 61 = true := by kernel_rfl
@[simp] theorem sz62 : sizeT Tryd.prog 62 = 2 := by kernel_rfl
@[simp] theorem ag62 : isAggT Tryd.prog 62 = some true := by kernel_rfl
@[simp] theorem zc62 : zcells Tryd.prog 62 = some [(.int .i64 0, false), (.int .i64 0, false)] := by kernel_rfl
@[simp] theorem zt62 : zeroT Tryd.prog 62 = true := by kernel_rfl
@[simp] theorem fa62_0 (x : AVal) : afield Tryd.prog 62 x 0 = ashift 0 x := by kernel_rfl
@[simp] theorem fv62_0 (cs : List AVal) : afieldv Tryd.prog 62 (.agg cs) 0 = cs[0]? := by kernel_rfl
@[simp] theorem fa62_1 (x : AVal) : afield Tryd.prog 62 x 1 = ashift 1 x := by kernel_rfl
@[simp] theorem fv62_1 (cs : List AVal) : afieldv Tryd.prog 62 (.agg cs) 1 = cs[1]? := by kernel_rfl
@[simp] theorem bd62 (nl : Bool) (ps : List (Nat × AVal)) : abuild Tryd.prog nl 62 ps = afillL [(0, 1), (1, 1)] (if nl then [.int .i64 0, .int .i64 0] else [.int .i64 0, .int .i64 0]) ps := by cases nl <;> kernel_rfl
@[simp] theorem sz63 : sizeT Tryd.prog 63 = 2 := by kernel_rfl
@[simp] theorem ag63 : isAggT Tryd.prog 63 = some true := by kernel_rfl
@[simp] theorem zc63 : zcells Tryd.prog 63 = some [(.int .i64 0, false), (.int .i64 0, false)] := by kernel_rfl
@[simp] theorem zt63 : zeroT Tryd.prog 63 = true := by kernel_rfl
@[simp] theorem fa63_0 (x : AVal) : afield Tryd.prog 63 x 0 = ashift 0 x := by kernel_rfl
@[simp] theorem fv63_0 (cs : List AVal) : afieldv Tryd.prog 63 (.agg cs) 0 = cs[0]? := by kernel_rfl
@[simp] theorem fa63_1 (x : AVal) : afield Tryd.prog 63 x 1 = ashift 1 x := by kernel_rfl
@[simp] theorem fv63_1 (cs : List AVal) : afieldv Tryd.prog 63 (.agg cs) 1 = cs[1]? := by kernel_rfl
@[simp] theorem bd63 (nl : Bool) (ps : List (Nat × AVal)) : abuild Tryd.prog nl 63 ps = afillL [(0, 1), (1, 1)] (if nl then [.int .i64 0, .int .i64 0] else [.int .i64 0, .int .i64 0]) ps := by cases nl <;> kernel_rfl
@[simp] theorem sz64 : sizeT Tryd.prog 64 = 1 := by kernel_rfl
@[simp] theorem ag64 : isAggT Tryd.prog 64 = some false := by kernel_rfl
@[simp] theorem zc64 : zcells Tryd.prog 64 = some [(.nilf, false)] := by kernel_rfl
@[simp] theorem zt64 : zeroT Tryd.prog 64 = true := by kernel_rfl
@[simp] theorem sz66 : sizeT Tryd.prog 66 = 1 := by kernel_rfl
@[simp] theorem ag66 : isAggT Tryd.prog 66 = some false := by kernel_rfl
@[simp] theorem zc66 : zcells Tryd.prog 66 = some [(.nilf, false)] := by kernel_rfl
@[simp] theorem zt66 : zeroT Tryd.prog 66 = true := by kernel_rfl
@[simp] theorem sz67 : sizeT Tryd.prog 67 = 1 := by kernel_rfl
@[simp] theorem ag67 : isAggT Tryd.prog 67 = some false := by kernel_rfl
@[simp] theorem zc67 : zcells Tryd.prog 67 = some [(.int .u64 0, false)] := by kernel_rfl
@[simp] theorem zt67 : zeroT Tryd.prog 67 = true := by kernel_rfl
@[simp] theorem sz69 : sizeT Tryd.prog 69 = 1 := by kernel_rfl
@[simp] theorem ag69 : isAggT Tryd.prog 69 = some false := by kernel_rfl
@[simp] theorem zc69 : zcells Tryd.prog 69 = some [(.nilf, false)] := by kernel_rfl
@[simp] theorem zt69 : zeroT Tryd.prog 69 = true := by kernel_rfl
@[simp] theorem sz70 : sizeT Tryd.prog 70 = 1 := by kernel_rfl
@[simp] theorem ag70 : isAggT Tryd.prog 70 = some false := by kernel_rfl
@[simp] theorem zc70 : zcells Tryd.prog 70 = some [(.nilf, false)] := by kernel_rfl
@[simp] theorem zt70 : zeroT Tryd.prog 70 = true := by kernel_rfl
@[simp] theorem sz71 : sizeT Tryd.prog 71 = 1 := by kernel_rfl
@[simp] theorem ag71 : isAggT Tryd.prog 71 = some false := by kernel_rfl
@[simp] theorem zc71 : zcells Tryd.prog 71 = some [(.nilp, false)] := by kernel_rfl
@[simp] theorem zt71 : zeroT Tryd.prog 71 = true := by kernel_rfl
@[simp] theorem sz72 : sizeT Tryd.prog 72 = 1 := by kernel_rfl
@[simp] theorem ag72 : isAggT Tryd.prog 72 = some false := by kernel_rfl
@[simp] theorem zc72 : zcells Tryd.prog 72 = some [(.lst [], true)] := by kernel_rfl
@[simp] theorem zt72 : zeroT Tryd.prog 72 = true := by kernel_rfl
@[simp] theorem un72 : Tryd.prog.underlying 72 = some (.slice 5) := by kernel_rfl
@[simp] theorem st72 : slT Tryd.prog 72 = true := by kernel_rfl
@[simp] theorem ai72 : apInfo Tryd.prog 72 = some (5, 1, 1, false) := by kernel_rfl
@[simp] theorem sz73 : sizeT Tryd.prog 73 = 2 := by kernel_rfl
@[simp] theorem ag73 : isAggT Tryd.prog 73 = some true := by kernel_rfl
@[simp] theorem zc73 : zcells Tryd.prog 73 = some [(.nilp, false), (.lst [], true)] := by kernel_rfl
@[simp] theorem zt73 : zeroT Tryd.prog 73 = true := by kernel_rfl
@[simp] theorem fa73_0 (x : AVal) : afield Tryd.prog 73 x 0 = ashift 0 x := by kernel_rfl
@[simp] theorem fv73_0 (cs : List AVal) : afieldv Tryd.prog 73 (.agg cs) 0 = cs[0]? := by kernel_rfl
@[simp] theorem fa73_1 (x : AVal) : afield Tryd.prog 73 x 1 = ashift 1 x := by kernel_rfl
@[simp] theorem fv73_1 (cs : List AVal) : afieldv Tryd.prog 73 (.agg cs) 1 = cs[1]? := by kernel_rfl
@[simp] theorem bd73 (nl : Bool) (ps : List (Nat × AVal)) : abuild Tryd.prog nl 73 ps = afillL [(0, 1), (1, 1)] (if nl then [.nilp, .nils] else [.nilp, .lst []]) ps := by cases nl <;> kernel_rfl
@[simp] theorem sz74 : sizeT Tryd.prog 74 = 2 := by kernel_rfl
@[simp] theorem ag74 : isAggT Tryd.prog 74 = some true := by kernel_rfl
@[simp] theorem zc74 : zcells Tryd.prog 74 = some [(.nilp, false), (.lst [], true)] := by kernel_rfl
@[simp] theorem zt74 : zeroT Tryd.prog 74 = true := by kernel_rfl
@[simp] theorem fa74_0 (x : AVal) : afield Tryd.prog 74 x 0 = ashift 0 x := by kernel_rfl
@[simp] theorem fv74_0 (cs : List AVal) : afieldv Tryd.prog 74 (.agg cs) 0 = cs[0]? := by kernel_rfl
@[simp] theorem fa74_1 (x : AVal) : afield Tryd.prog 74 x 1 = ashift 1 x := by kernel_rfl
@[simp] theorem fv74_1 (cs : List AVal) : afieldv Tryd.prog 74 (.agg cs) 1 = cs[1]? := by kernel_rfl
@[simp] theorem bd74 (nl : Bool) (ps : List (Nat × AVal)) : abuild Tryd.prog nl 74 ps = afillL [(0, 1), (1, 1)] (if nl then [.nilp, .nils] else [.nilp, .lst []]) ps := by cases nl <;> kernel_rfl
@[simp] theorem sz75 : sizeT Tryd.prog 75 = 1 := by kernel_rfl
@[simp] theorem ag75 : isAggT Tryd.prog 75 = some false := by kernel_rfl
@[simp] theorem zc75 : zcells Tryd.prog 75 = some [(.nilf, false)] := by kernel_rfl
@[simp] theorem zt75 : zeroT Tryd.prog 75 = true := by kernel_rfl
@[simp] theorem sz79 : sizeT Tryd.prog 79 = 1 := by kernel_rfl
@[simp] theorem ag79 : isAggT Tryd.prog 79 = some false := by kernel_rfl
@[simp] theorem zc79 : zcells Tryd.prog 79 = some [(.nilf, false)] := by kernel_rfl
@[simp] theorem zt79 : zeroT Tryd.prog 79 = true := by kernel_rfl
@[simp] theorem sz80 : sizeT Tryd.prog 80 = 1 := by kernel_rfl
@[simp] theorem ag80 : isAggT Tryd.prog 80 = some false := by kernel_rfl
@[simp] theorem zc80 : zcells Tryd.prog 80 = some [(.nilf, false)] := by kernel_rfl
@[simp] theorem zt80 : zeroT Tryd.prog 80 = true := by kernel_rfl
@[simp] theorem sz81 : sizeT Tryd.prog 81 = 1 := by kernel_rfl
@[simp] theorem ag81 : isAggT Tryd.prog 81 = some false := by kernel_rfl
@[simp] theorem zc81 : zcells Tryd.prog 81 = some [(.nilf, false)] := by kernel_rfl
@[simp] theorem zt81 : zeroT Tryd.prog 81 = true := by kernel_rfl
@[simp] theorem sz83 : sizeT Tryd.prog 83 = 1 := by kernel_rfl
@[simp] theorem ag83 : isAggT Tryd.prog 83 = some false := by kernel_rfl
@[simp] theorem zc83 : zcells Tryd.prog 83 = some [(.nilf, false)] := by kernel_rfl
@[simp] theorem zt83 : zeroT Tryd.prog 83 = true := by kernel_rfl
@[simp] theorem sz84 : sizeT Tryd.prog 84 = 1 := by kernel_rfl
@[simp] theorem ag84 : isAggT Tryd.prog 84 = some false := by kernel_rfl
@[simp] theorem zc84 : zcells Tryd.prog 84 = some [(.lst [], true)] := by kernel_rfl
@[simp] theorem zt84 : zeroT Tryd.prog 84 = true := by kernel_rfl
@[simp] theorem un84 : Tryd.prog.underlying 84 = some (.slice 56) := by kernel_rfl
@[simp] theorem st84 : slT Tryd.prog 84 = true := by kernel_rfl
@[simp] theorem ai84 : apInfo Tryd.prog 84 = some (56, 16, 2, true) := by kernel_rfl
@[simp] theorem sz85 : sizeT Tryd.prog 85 = 1 := by kernel_rfl
@[simp] theorem ag85 : isAggT Tryd.prog 85 = some false := by kernel_rfl
@[simp] theorem zc85 : zcells Tryd.prog 85 = some [(.nilf, false)] := by kernel_rfl
@[simp] theorem zt85 : zeroT Tryd.prog 85 = true := by kernel_rfl
@[simp] theorem sz86 : sizeT Tryd.prog 86 = 1 := by kernel_rfl
@[simp] theorem ag86 : isAggT Tryd.prog 86 = some false := by kernel_rfl
@[simp] theorem zc86 : zcells Tryd.prog 86 = some [(.nilf, false)] := by kernel_rfl
@[simp] theorem zt86 : zeroT Tryd.prog 86 = true := by kernel_rfl
@[simp] theorem sz87 : sizeT Tryd.prog 87 = 1 := by kernel_rfl
@[simp] theorem ag87 : isAggT Tryd.prog 87 = some false := by kernel_rfl
@[simp] theorem zc87 : zcells Tryd.prog 87 = some [(.nilf, false)] := by kernel_rfl
@[simp] theorem zt87 : zeroT Tryd.prog 87 = true := by kernel_rfl
@[simp] theorem sz88 : sizeT Tryd.prog 88 = 1 := by kernel_rfl
@[simp] theorem ag88 : isAggT Tryd.prog 88 = some false := by kernel_rfl
@[simp] theorem zc88 : zcells Tryd.prog 88 = some [(.nilf, false)] := by kernel_rfl
@[simp] theorem zt88 : zeroT Tryd.prog 88 = true := by kernel_rfl
@[simp] theorem sz89 : sizeT Tryd.prog 89 = 1 := by kernel_rfl
@[simp] theorem ag89 : isAggT Tryd.prog 89 = some false := by kernel_rfl
@[simp] theorem zc89 : zcells Tryd.prog 89 = some [(.nilf, false)] := by kernel_rfl
@[simp] theorem zt89 : zeroT Tryd.prog 89 = true := by kernel_rfl
@[simp] theorem sz90 : sizeT Tryd.prog 90 = 1 := by kernel_rfl
@[simp] theorem ag90 : isAggT Tryd.prog 90 = some false := by kernel_rfl
@[simp] theorem zc90 : zcells Tryd.prog 90 = some [(.nilf, false)] := by kernel_rfl
@[simp] theorem zt90 : zeroT Tryd.prog 90 = true := by kernel_rfl
@[simp] theorem sz91 : sizeT Tryd.prog 91 = 1 := by kernel_rfl
@[simp] theorem ag91 : isAggT Tryd.prog 91 = some false := by kernel_rfl
@[simp] theorem zc91 : zcells Tryd.prog 91 = some [(.lst [], true)] := by kernel_rfl
@[simp] theorem zt91 : zeroT Tryd.prog 91 = true := by kernel_rfl
@[simp] theorem un91 : Tryd.prog.underlying 91 = some (.slice 63) := by kernel_rfl
@[simp] theorem st91 : slT Tryd.prog 91 = true := by kernel_rfl
@[simp] theorem ai91 : apInfo Tryd.prog 91 = some (63, 16, 2, true) := by kernel_rfl
@[simp] theorem sz92 : sizeT Tryd.prog 92 = 1 := by kernel_rfl
@[simp] theorem ag92 : isAggT Tryd.prog 92 = some false := by kernel_rfl
@[simp] theorem zc92 : zcells Tryd.prog 92 = some [(.nilf, false)] := by kernel_rfl
@[simp] theorem zt92 : zeroT Tryd.prog 92 = true := by kernel_rfl
@[simp] theorem sz93 : sizeT Tryd.prog 93 = 1 := by kernel_rfl
@[simp] theorem ag93 : isAggT Tryd.prog 93 = some false := by kernel_rfl
@[simp] theorem zc93 : zcells Tryd.prog 93 = some [(.nilf, false)] := by kernel_rfl
@[simp] theorem zt93 : zeroT Tryd.prog 93 = true := by kernel_rfl
@[simp] theorem sz94 : sizeT Tryd.prog 94 = 1 := by kernel_rfl
@[simp] theorem ag94 : isAggT Tryd.prog 94 = some false := by kernel_rfl
@[simp] theorem zc94 : zcells Tryd.prog 94 = some [(.lst [], true)] := by kernel_rfl
@[simp] theorem zt94 : zeroT Tryd.prog 94 = true := by kernel_rfl
@[simp] theorem un94 : Tryd.prog.underlying 94 = some (.slice 111) := by kernel_rfl
@[simp] theorem st94 : slT Tryd.prog 94 = true := by kernel_rfl
@[simp] theorem ai94 : apInfo Tryd.prog 94 = some (111, 24, 2, true) := by kernel_rfl
@[simp] theorem sz95 : sizeT Tryd.prog 95 = 1 := by kernel_rfl
@[simp] theorem ag95 : isAggT Tryd.prog 95 = some false := by kernel_rfl
@[simp] theorem zc95 : zcells Tryd.prog 95 = some [(.nilf, false)] := by kernel_rfl
@[simp] theorem zt95 : zeroT Tryd.prog 95 = true := by kernel_rfl
@[simp] theorem sz96 : sizeT Tryd.prog 96 = 1 := by kernel_rfl
@[simp] theorem ag96 : isAggT Tryd.prog 96 = some false := by kernel_rfl
@[simp] theorem zc96 : zcells Tryd.prog 96 = some [(.nilf, false)] := by kernel_rfl
@[simp] theorem zt96 : zeroT Tryd.prog 96 = true := by kernel_rfl
@[simp] theorem sz97 : sizeT Tryd.prog 97 = 1 := by kernel_rfl
@[simp] theorem ag97 : isAggT Tryd.prog 97 = some false := by kernel_rfl
@[simp] theorem zc97 : zcells Tryd.prog 97 = some [(.nilf, false)] := by kernel_rfl
@[simp] theorem zt97 : zeroT Tryd.prog 97 = true := by kernel_rfl
@[simp] theorem sz98 : sizeT Tryd.prog 98 = 1 := by kernel_rfl
@[simp] theorem ag98 : isAggT Tryd.prog 98 = some false := by kernel_rfl
@[simp] theorem zc98 : zcells Tryd.prog 98 = some [(.nilf, false)] := by kernel_rfl
@[simp] theorem zt98 : zeroT Tryd.prog 98 = true := by kernel_rfl
@[simp] theorem sz99 : sizeT Tryd.prog 99 = 1 := by kernel_rfl
@[simp] theorem ag99 : isAggT Tryd.prog 99 = some false := by kernel_rfl
@[simp] theorem zc99 : zcells Tryd.prog 99 = some [(.int .u32 0, false)] := by kernel_rfl
@[simp] theorem zt99 : zeroT Tryd.prog 99 = true := by kernel_rfl
@[simp] theorem sz101 : sizeT Tryd.prog 101 = 1 := by kernel_rfl
@[simp] theorem ag101 : isAggT Tryd.prog 101 = some false := by kernel_rfl
@[simp] theorem zc101 : zcells Tryd.prog 101 = some [(.nilf, false)] := by kernel_rfl
@[simp] theorem zt101 : zeroT Tryd.prog 101 = true := by kernel_rfl
@[simp] theorem sz102 : sizeT Tryd.prog 102 = 1 := by kernel_rfl
@[simp] theorem ag102 : isAggT Tryd.prog 102 = some false := by kernel_rfl
@[simp] theorem zc102 : zcells Tryd.prog 102 = some [(.int .u64 0, false)] := by kernel_rfl
@[simp] theorem zt102 : zeroT Tryd.prog 102 = true := by kernel_rfl
@[simp] theorem sz104 : sizeT Tryd.prog 104 = 1 := by kernel_rfl
@[simp] theorem ag104 : isAggT Tryd.prog 104 = some false := by kernel_rfl
@[simp] theorem zc104 : zcells Tryd.prog 104 = some [(.nilf, false)] := by kernel_rfl
@[simp] theorem zt104 : zeroT Tryd.prog 104 = true := by kernel_rfl
@[simp] theorem sz105 : sizeT Tryd.prog 105 = 1 := by kernel_rfl
@[simp] theorem ag105 : isAggT Tryd.prog 105 = some false := by kernel_rfl
@[simp] theorem zc105 : zcells Tryd.prog 105 = some [(.nilp, false)] := by kernel_rfl
@[simp] theorem zt105 : zeroT Tryd.prog 105 = true := by kernel_rfl
@[simp] theorem sz106 : sizeT Tryd.prog 106 = 1 := by kernel_rfl
@[simp] theorem ag106 : isAggT Tryd.prog 106 = some false := by kernel_rfl
@[simp] theorem zc106 : zcells Tryd.prog 106 = some [(.nilf, false)] := by kernel_rfl
@[simp] theorem zt106 : zeroT Tryd.prog 106 = true := by kernel_rfl
@[simp] theorem sz107 : sizeT Tryd.prog 107 = 1 := by kernel_rfl
@[simp] theorem ag107 : isAggT Tryd.prog 107 = some false := by kernel_rfl
@[simp] theorem zc107 : zcells Tryd.prog 107 = some [(.nilf, false)] := by kernel_rfl
@[simp] theorem zt107 : zeroT Tryd.prog 107 = true := by kernel_rfl
@[simp] theorem sz108 : sizeT Tryd.prog 108 = 1 := by kernel_rfl
@[simp] theorem ag108 : isAggT Tryd.prog 108 = some false := by kernel_rfl
@[simp] theorem zc108 : zcells Tryd.prog 108 = some [(.nilf, false)] := by kernel_rfl
@[simp] theorem zt108 : zeroT Tryd.prog 108 = true := by kernel_rfl
@[simp] theorem sz109 : sizeT Tryd.prog 109 = 1 := by kernel_rfl
@[simp] theorem ag109 : isAggT Tryd.prog 109 = some false := by kernel_rfl
@[simp] theorem zc109 : zcells Tryd.prog 109 = some [(.nilf, false)] := by kernel_rfl
@[simp] theorem zt109 : zeroT Tryd.prog 109 = true := by kernel_rfl
@[simp] theorem sz110 : sizeT Tryd.prog 110 = 2 := by kernel_rfl
@[simp] theorem ag110 : isAggT Tryd.prog 110 = some true := by kernel_rfl
@[simp] theorem zc110 : zcells Tryd.prog 110 = some [(.str ByteArray.empty, false), (.int .i64 0, false)] := by kernel_rfl
@[simp] theorem zt110 : zeroT Tryd.prog 110 = true := by kernel_rfl
@[simp] theorem fa110_0 (x : AVal) : afield Tryd.prog 110 x 0 = ashift 0 x := by kernel_rfl
@[simp] theorem fv110_0 (cs : List AVal) : afieldv Tryd.prog 110 (.agg cs) 0 = cs[0]? := by kernel_rfl
@[simp] theorem fa110_1 (x : AVal) : afield Tryd.prog 110 x 1 = ashift 1 x := by kernel_rfl
@[simp] theorem fv110_1 (cs : List AVal) : afieldv Tryd.prog 110 (.agg cs) 1 = cs[1]? := by kernel_rfl
@[simp] theorem bd110 (nl : Bool) (ps : List (Nat × AVal)) : abuild Tryd.prog nl 110 ps = afillL [(0, 1), (1, 1)] (if nl then [.str ByteArray.empty, .int .i64 0] else [.str ByteArray.empty, .int .i64 0]) ps := by cases nl <;> kernel_rfl
@[simp] theorem sz111 : sizeT Tryd.prog 111 = 2 := by kernel_rfl
@[simp] theorem ag111 : isAggT Tryd.prog 111 = some true := by kernel_rfl
@[simp] theorem zc111 : zcells Tryd.prog 111 = some [(.str ByteArray.empty, false), (.int .i64 0, false)] := by kernel_rfl
@[simp] theorem zt111 : zeroT Tryd.prog 111 = true := by kernel_rfl
@[simp] theorem fa111_0 (x : AVal) : afield Tryd.prog 111 x 0 = ashift 0 x := by kernel_rfl
@[simp] theorem fv111_0 (cs : List AVal) : afieldv Tryd.prog 111 (.agg cs) 0 = cs[0]? := by kernel_rfl
@[simp] theorem fa111_1 (x : AVal) : afield Tryd.prog 111 x 1 = ashift 1 x := by kernel_rfl
@[simp] theorem fv111_1 (cs : List AVal) : afieldv Tryd.prog 111 (.agg cs) 1 = cs[1]? := by kernel_rfl
@[simp] theorem bd111 (nl : Bool) (ps : List (Nat × AVal)) : abuild Tryd.prog nl 111 ps = afillL [(0, 1), (1, 1)] (if nl then [.str ByteArray.empty, .int .i64 0] else [.str ByteArray.empty, .int .i64 0]) ps := by cases nl <;> kernel_rfl
@[simp] theorem sz112 : sizeT Tryd.prog 112 = 1 := by kernel_rfl
@[simp] theorem ag112 : isAggT Tryd.prog 112 = some false := by kernel_rfl
@[simp] theorem zc112 : zcells Tryd.prog 112 = some [(.nilf, false)] := by kernel_rfl
@[simp] theorem zt112 : zeroT Tryd.prog 112 = true := by kernel_rfl
@[simp] theorem sz113 : sizeT Tryd.prog 113 = 1 := by kernel_rfl
@[simp] theorem ag113 : isAggT Tryd.prog 113 = some false := by kernel_rfl
@[simp] theorem zc113 : zcells Tryd.prog 113 = some [(.nilm, false)] := by kernel_rfl
@[simp] theorem zt113 : zeroT Tryd.prog 113 = true := by kernel_rfl
@[simp] theorem un113 : Tryd.prog.underlying 113 = some (.map 9 3) := by kernel_rfl
@[simp] theorem sz114 : sizeT Tryd.prog 114 = 1 := by kernel_rfl
@[simp] theorem ag114 : isAggT Tryd.prog 114 = some false := by kernel_rfl
@[simp] theorem zc114 : zcells Tryd.prog 114 = some [(.nilp, false)] := by kernel_rfl
@[simp] theorem zt114 : zeroT Tryd.prog 114 = true := by kernel_rfl
@[simp] theorem sz115 : sizeT Tryd.prog 115 = 1 := by kernel_rfl
@[simp] theorem ag115 : isAggT Tryd.prog 115 = some false := by kernel_rfl
@[simp] theorem zc115 : zcells Tryd.prog 115 = some [(.nilf, false)] := by kernel_rfl
@[simp] theorem zt115 : zeroT Tryd.prog 115 = true := by kernel_rfl
@[simp] theorem sz116 : sizeT Tryd.prog 116 = 1 := by kernel_rfl
@[simp] theorem ag116 : isAggT Tryd.prog 116 = some false := by kernel_rfl
@[simp] theorem zc116 : zcells Tryd.prog 116 = some [(.nilf, false)] := by kernel_rfl
@[simp] theorem zt116 : zeroT Tryd.prog 116 = true := by kernel_rfl
@[simp] theorem sz117 : sizeT Tryd.prog 117 = 1 := by kernel_rfl
@[simp] theorem ag117 : isAggT Tryd.prog 117 = some false := by kernel_rfl
@[simp] theorem zc117 : zcells Tryd.prog 117 = some [(.nilf, false)] := by kernel_rfl
@[simp] theorem zt117 : zeroT Tryd.prog 117 = true := by kernel_rfl
@[simp] theorem sz121 : sizeT Tryd.prog 121 = 1 := by kernel_rfl
@[simp] theorem ag121 : isAggT Tryd.prog 121 = some false := by kernel_rfl
@[simp] theorem zc121 : zcells Tryd.prog 121 = some [(.nilf, false)] := by kernel_rfl
@[simp] theorem zt121 : zeroT Tryd.prog 121 = true := by kernel_rfl
@[simp] theorem sz122 : sizeT Tryd.prog 122 = 1 := by kernel_rfl
@[simp] theorem ag122 : isAggT Tryd.prog 122 = some false := by kernel_rfl
@[simp] theorem zc122 : zcells Tryd.prog 122 = some [(.nilf, false)] := by kernel_rfl
@[simp] theorem zt122 : zeroT Tryd.prog 122 = true := by kernel_rfl
@[simp] theorem sz123 : sizeT Tryd.prog 123 = 1 := by kernel_rfl
@[simp] theorem ag123 : isAggT Tryd.prog 123 = some false := by kernel_rfl
@[simp] theorem zc123 : zcells Tryd.prog 123 = some [(.nilp, false)] := by kernel_rfl
@[simp] theorem zt123 : zeroT Tryd.prog 123 = true := by kernel_rfl
@[simp] theorem sz124 : sizeT Tryd.prog 124 = 1 := by kernel_rfl
@[simp] theorem ag124 : isAggT Tryd.prog 124 = some false := by kernel_rfl
@[simp] theorem zc124 : zcells Tryd.prog 124 = some [(.nilf, false)] := by kernel_rfl
@[simp] theorem zt124 : zeroT Tryd.prog 124 = true := by kernel_rfl
@[simp] theorem sz126 : sizeT Tryd.prog 126 = 1 := by kernel_rfl
@[simp] theorem ag126 : isAggT Tryd.prog 126 = some false := by kernel_rfl
@[simp] theorem zc126 : zcells Tryd.prog 126 = some [(.nilf, false)] := by kernel_rfl
@[simp] theorem zt126 : zeroT Tryd.prog 126 = true := by kernel_rfl
@[simp] theorem sz127 : sizeT Tryd.prog 127 = 1 := by kernel_rfl
@[simp] theorem ag127 : isAggT Tryd.prog 127 = some false := by kernel_rfl
@[simp] theorem zc127 : zcells Tryd.prog 127 = some [(.nilf, false)] := by kernel_rfl
@[simp] theorem zt127 : zeroT Tryd.prog 127 = true := by kernel_rfl
@[simp] theorem sz128 : sizeT Tryd.prog 128 = 1 := by kernel_rfl
@[simp] theorem ag128 : isAggT Tryd.prog 128 = some false := by kernel_rfl
@[simp] theorem zc128 : zcells Tryd.prog 128 = some [(.nilf, false)] := by kernel_rfl
@[simp] theorem zt128 : zeroT Tryd.prog 128 = true := by kernel_rfl
@[simp] theorem sz130 : sizeT Tryd.prog 130 = 2 := by kernel_rfl
@[simp] theorem ag130 : isAggT Tryd.prog 130 = some true := by kernel_rfl
@[simp] theorem zc130 : zcells Tryd.prog 130 = some [(.int .u8 0, false), (.int .u8 0, false)] := by kernel_rfl
@[simp] theorem zt130 : zeroT Tryd.prog 130 = true := by kernel_rfl
@[simp] theorem fa130_0 (x : AVal) : afield Tryd.prog 130 x 0 = ashift 0 x := by kernel_rfl
@[simp] theorem fv130_0 (cs : List AVal) : afieldv Tryd.prog 130 (.agg cs) 0 = cs[0]? := by kernel_rfl
@[simp] theorem fa130_1 (x : AVal) : afield Tryd.prog 130 x 1 = ashift 1 x := by kernel_rfl
@[simp] theorem fv130_1 (cs : List AVal) : afieldv Tryd.prog 130 (.agg cs) 1 = cs[1]? := by kernel_rfl
@[simp] theorem bd130 (nl : Bool) (ps : List (Nat × AVal)) : abuild Tryd.prog nl 130 ps = afillL [(0, 1), (1, 1)] (if nl then [.int .u8 0, .int .u8 0] else [.int .u8 0, .int .u8 0]) ps := by cases nl <;> kernel_rfl
@[simp] theorem sz131 : sizeT Tryd.prog 131 = 2 := by kernel_rfl
@[simp] theorem ag131 : isAggT Tryd.prog 131 = some true := by kernel_rfl
@[simp] theorem zc131 : zcells Tryd.prog 131 = some [(.int .u8 0, false), (.int .u8 0, false)] := by kernel_rfl
@[simp] theorem zt131 : zeroT Tryd.prog 131 = true := by kernel_rfl
@[simp] theorem fa131_0 (x : AVal) : afield Tryd.prog 131 x 0 = ashift 0 x := by kernel_rfl
@[simp] theorem fv131_0 (cs : List AVal) : afieldv Tryd.prog 131 (.agg cs) 0 = cs[0]? := by kernel_rfl
@[simp] theorem fa131_1 (x : AVal) : afield Tryd.prog 131 x 1 = ashift 1 x := by kernel_rfl
@[simp] theorem fv131_1 (cs : List AVal) : afieldv Tryd.prog 131 (.agg cs) 1 = cs[1]? := by kernel_rfl
@[simp] theorem bd131 (nl : Bool) (ps : List (Nat × AVal)) : abuild Tryd.prog nl 131 ps = afillL [(0, 1), (1, 1)] (if nl then [.int .u8 0, .int .u8 0] else [.int .u8 0, .int .u8 0]) ps := by cases nl <;> kernel_rfl
@[simp] theorem sz132 : sizeT Tryd.prog 132 = 32 := by kernel_rfl
@[simp] theorem ag132 : isAggT Tryd.prog 132 = some true := by kernel_rfl
@[simp] theorem zc132 : zcells Tryd.prog 132 = some [(.int .u8 0, false), (.int .u8 0, false), (.int .u8 0, false), (.int .u8 0, false), (.int .u8 0, false), (.int .u8 0, false), (.int .u8 0, false), (.int .u8 0, false), (.int .u8 0, false), (.int .u8 0, false), (.int .u8 0, false), (.int .u8 0, false), (.int .u8 0, false), (.int .u8 0, false), (.int .u8 0, false), (.int .u8 0, false), (.int .u8 0, false), (.int .u8 0, false), (.int .u8 0, false), (.int .u8 0, false), (.int .u8 0, false), (.int .u8 0, false), (.int .u8 0, false), (.int .u8 0, false), (.int .u8 0, false), (.int .u8 0, false), (.int .u8 0, false), (.int .u8 0, false), (.int .u8 0, false), (.int .u8 0, false), (.int .u8 0, false), (.int .u8 0, false)] := by kernel_rfl
@[simp] theorem zt132 : zeroT Tryd.prog 132 = true := by kernel_rfl
@[simp] theorem sz133 : sizeT Tryd.prog 133 = 1 := by kernel_rfl
@[simp] theorem ag133 : isAggT Tryd.prog 133 = some false := by kernel_rfl
@[simp] theorem zc133 : zcells Tryd.prog 133 = some [(.nilf, false)] := by kernel_rfl
@[simp] theorem zt133 : zeroT Tryd.prog 133 = true := by kernel_rfl
@[simp] theorem sz134 : sizeT Tryd.prog 134 = 1 := by kernel_rfl
@[simp] theorem ag134 : isAggT Tryd.prog 134 = some false := by kernel_rfl
@[simp] theorem zc134 : zcells Tryd.prog 134 = some [(.nilf, false)] := by kernel_rfl
@[simp] theorem zt134 : zeroT Tryd.prog 134 = true := by kernel_rfl
@[simp] theorem sz135 : sizeT Tryd.prog 135 = 4 := by kernel_rfl
@[simp] theorem ag135 : isAggT Tryd.prog 135 = some true := by kernel_rfl
@[simp] theorem zt135 : zeroT Tryd.prog 135 = true := by kernel_rfl
@[simp] theorem sz136 : sizeT Tryd.prog 136 = 4 := by kernel_rfl
@[simp] theorem ag136 : isAggT Tryd.prog 136 = some true := by kernel_rfl
@[simp] theorem zt136 : zeroT Tryd.prog 136 = true := by kernel_rfl
@[simp] theorem sz137 : sizeT Tryd.prog 137 = 0 := by kernel_rfl
@[simp] theorem ag137 : isAggT Tryd.prog 137 = some true := by kernel_rfl
@[simp] theorem zc137 : zcells Tryd.prog 137 = some [] := by kernel_rfl
@[simp] theorem zt137 : zeroT Tryd.prog 137 = true := by kernel_rfl
@[simp] theorem sz138 : sizeT Tryd.prog 138 = 0 := by kernel_rfl
@[simp] theorem ag138 : isAggT Tryd.prog 138 = some true := by kernel_rfl
@[simp] theorem zt138 : zeroT Tryd.prog 138 = true := by kernel_rfl
@[simp] theorem sz139 : sizeT Tryd.prog 139 = 0 := by kernel_rfl
@[simp] theorem ag139 : isAggT Tryd.prog 139 = some true := by kernel_rfl
@[simp] theorem zt139 : zeroT Tryd.prog 139 = true := by kernel_rfl
@[simp] theorem sz140 : sizeT Tryd.prog 140 = 1 := by kernel_rfl
@[simp] theorem ag140 : isAggT Tryd.prog 140 = some false := by kernel_rfl
@[simp] theorem zc140 : zcells Tryd.prog 140 = some [(.int .u8 0, false)] := by kernel_rfl
@[simp] theorem zt140 : zeroT Tryd.prog 140 = true := by kernel_rfl
@[simp] theorem sz141 : sizeT Tryd.prog 141 = 1 := by kernel_rfl
@[simp] theorem ag141 : isAggT Tryd.prog 141 = some false := by kernel_rfl
@[simp] theorem zc141 : zcells Tryd.prog 141 = some [(.int .u8 0, false)] := by kernel_rfl
@[simp] theorem zt141 : zeroT Tryd.prog 141 = true := by kernel_rfl
@[simp] theorem sz142 : sizeT Tryd.prog 142 = 1 := by kernel_rfl
@[simp] theorem ag142 : isAggT Tryd.prog 142 = some false := by kernel_rfl
@[simp] theorem zc142 : zcells Tryd.prog 142 = some [(.nilf, false)] := by kernel_rfl
@[simp] theorem zt142 : zeroT Tryd.prog 142 = true := by kernel_rfl
@[simp] theorem sz143 : sizeT Tryd.prog 143 = 1 := by kernel_rfl
@[simp] theorem ag143 : isAggT Tryd.prog 143 = some false := by kernel_rfl
@[simp] theorem zc143 : zcells Tryd.prog 143 = some [(.int .i32 0, false)] := by kernel_rfl
@[simp] theorem zt143 : zeroT Tryd.prog 143 = true := by kernel_rfl
@[simp] theorem sz144 : sizeT Tryd.prog 144 = 1 := by kernel_rfl
@[simp] theorem ag144 : isAggT Tryd.prog 144 = some false := by kernel_rfl
@[simp] theorem zc144 : zcells Tryd.prog 144 = some [(.int .i32 0, false)] := by kernel_rfl
@[simp] theorem zt144 : zeroT Tryd.prog 144 = true := by kernel_rfl
@[simp] theorem sz145 : sizeT Tryd.prog 145 = 11 := by kernel_rfl
@[simp] theorem ag145 : isAggT Tryd.prog 145 = some true := by kernel_rfl
@[simp] theorem zc145 : zcells Tryd.prog 145 = some [(.int .u64 0, false), (.int .u64 0, false), (.int .u32 0, false), (.int .u8 0, false), (.int .u8 0, false), (.int .u8 0, false), (.int .u8 0, false), (.nilf, false), (.nilp, false), (.int .i32 0, false), (.int .i32 0, false)] := by kernel_rfl
@[simp] theorem zt145 : zeroT Tryd.prog 145 = true := by kernel_rfl
@[simp] theorem fa145_0 (x : AVal) : afield Tryd.prog 145 x 0 = ashift 0 x := by kernel_rfl
@[simp] theorem fv145_0 (cs : List AVal) : afieldv Tryd.prog 145 (.agg cs) 0 = cs[0]? := by kernel_rfl
@[simp] theorem fa145_1 (x : AVal) : afield Tryd.prog 145 x 1 = ashift 1 x := by kernel_rfl
@[simp] theorem fv145_1 (cs : List AVal) : afieldv Tryd.prog 145 (.agg cs) 1 = cs[1]? := by kernel_rfl
@[simp] theorem fa145_2 (x : AVal) : afield Tryd.prog 145 x 2 = ashift 2 x := by kernel_rfl
@[simp] theorem fv145_2 (cs : List AVal) : afieldv Tryd.prog 145 (.agg cs) 2 = cs[2]? := by kernel_rfl
@[simp] theorem fa145_3 (x : AVal) : afield Tryd.prog 145 x 3 = ashift 3 x := by kernel_rfl
@[simp] theorem fv145_3 (cs : List AVal) : afieldv Tryd.prog 145 (.agg cs) 3 = cs[3]? := by kernel_rfl
@[simp] theorem fa145_4 (x : AVal) : afield Tryd.prog 145 x 4 = ashift 4 x := by kernel_rfl
@[simp] theorem fv145_4 (cs : List AVal) : afieldv Tryd.prog 145 (.agg cs) 4 = cs[4]? := by kernel_rfl
@[simp] theorem fa145_5 (x : AVal) : afield Tryd.prog 145 x 5 = ashift 5 x := by kernel_rfl
@[simp] theorem fv145_5 (cs : List AVal) : afieldv Tryd.prog 145 (.agg cs) 5 = cs[5]? := by kernel_rfl
@[simp] theorem fa145_6 (x : AVal) : afield Tryd.prog 145 x 6 = ashift 6 x := by kernel_rfl
@[simp] theorem fv145_6 (cs : List AVal) : afieldv Tryd.prog 145 (.agg cs) 6 = cs[6]? := by kernel_rfl
@[simp] theorem fa145_7 (x : AVal) : afield Tryd.prog 145 x 7 = ashift 7 x := by kernel_rfl
@[simp] theorem fv145_7 (cs : List AVal) : afieldv Tryd.prog 145 (.agg cs) 7 = cs[7]? := by kernel_rfl
@[simp] theorem fa145_8 (x : AVal) : afield Tryd.prog 145 x 8 = ashift 8 x := by kernel_rfl
@[simp] theorem fv145_8 (cs : List AVal) : afieldv Tryd.prog 145 (.agg cs) 8 = cs[8]? := by kernel_rfl
@[simp] theorem fa145_9 (x : AVal) : afield Tryd.prog 145 x 9 = ashift 9 x := by kernel_rfl
@[simp] theorem fv145_9 (cs : List AVal) : afieldv Tryd.prog 145 (.agg cs) 9 = cs[9]? := by kernel_rfl
@[simp] theorem fa145_10 (x : AVal) : afield Tryd.prog 145 x 10 = ashift 10 x := by kernel_rfl
@[simp] theorem fv145_10 (cs : List AVal) : afieldv Tryd.prog 145 (.agg cs) 10 = cs[10]? := by kernel_rfl
@[simp] theorem bd145 (nl : Bool) (ps : List (Nat × AVal)) : abuild Tryd.prog nl 145 ps = afillL [(0, 1), (1, 1), (2, 1), (3, 1), (4, 1), (5, 1), (6, 1), (7, 1), (8, 1), (9, 1), (10, 1)] (if nl then [.int .u64 0, .int .u64 0, .int .u32 0, .int .u8 0, .int .u8 0, .int .u8 0, .int .u8 0, .nilf, .nilp, .int .i32 0, .int .i32 0] else [.int .u64 0, .int .u64 0, .int .u32 0, .int .u8 0, .int .u8 0, .int .u8 0, .int .u8 0, .nilf, .nilp, .int .i32 0, .int .i32 0]) ps := by cases nl <;> kernel_rfl
@[simp] theorem sz146 : sizeT Tryd.prog 146 = 11 := by kernel_rfl
@[simp] theorem ag146 : isAggT Tryd.prog 146 = some true := by kernel_rfl
@[simp] theorem zc146 : zcells Tryd.prog 146 = some [(.int .u64 0, false), (.int .u64 0, false), (.int .u32 0, false), (.int .u8 0, false), (.int .u8 0, false), (.int .u8 0, false), (.int .u8 0, false), (.nilf, false), (.nilp, false), (.int .i32 0, false), (.int .i32 0, false)] := by kernel_rfl
@[simp] theorem zt146 : zeroT Tryd.prog 146 = true := by kernel_rfl
@[simp] theorem fa146_0 (x : AVal) : afield Tryd.prog 146 x 0 = ashift 0 x := by kernel_rfl
@[simp] theorem fv146_0 (cs : List AVal) : afieldv Tryd.prog 146 (.agg cs) 0 = cs[0]? := by kernel_rfl
@[simp] theorem fa146_1 (x : AVal) : afield Tryd.prog 146 x 1 = ashift 1 x := by kernel_rfl
@[simp] theorem fv146_1 (cs : List AVal) : afieldv Tryd.prog 146 (.agg cs) 1 = cs[1]? := by kernel_rfl
@[simp] theorem fa146_2 (x : AVal) : afield Tryd.prog 146 x 2 = ashift 2 x := by kernel_rfl
@[simp] theorem fv146_2 (cs : List AVal) : afieldv Tryd.prog 146 (.agg cs) 2 = cs[2]? := by kernel_rfl
@[simp] theorem fa146_3 (x : AVal) : afield Tryd.prog 146 x 3 = ashift 3 x := by kernel_rfl
@[simp] theorem fv146_3 (cs : List AVal) : afieldv Tryd.prog 146 (.agg cs) 3 = cs[3]? := by kernel_rfl
@[simp] theorem fa146_4 (x : AVal) : afield Tryd.prog 146 x 4 = ashift 4 x := by kernel_rfl
@[simp] theorem fv146_4 (cs : List AVal) : afieldv Tryd.prog 146 (.agg cs) 4 = cs[4]? := by kernel_rfl
@[simp] theorem fa146_5 (x : AVal) : afield Tryd.prog 146 x 5 = ashift 5 x := by kernel_rfl
@[simp] theorem fv146_5 (cs : List AVal) : afieldv Tryd.prog 146 (.agg cs) 5 = cs[5]? := by kernel_rfl
@[simp] theorem fa146_6 (x : AVal) : afield Tryd.prog 146 x 6 = ashift 6 x := by kernel_rfl
@[simp] theorem fv146_6 (cs : List AVal) : afieldv Tryd.prog 146 (.agg cs) 6 = cs[6]? := by kernel_rfl
@[simp] theorem fa146_7 (x : AVal) : afield Tryd.prog 146 x 7 = ashift 7 x := by kernel_rfl
@[simp] theorem fv146_7 (cs : List AVal) : afieldv Tryd.prog 146 (.agg cs) 7 = cs[7]? := by kernel_rfl
@[simp] theorem fa146_8 (x : AVal) : afield Tryd.prog 146 x 8 = ashift 8 x := by kernel_rfl
@[simp] theorem fv146_8 (cs : List AVal) : afieldv Tryd.prog 146 (.agg cs) 8 = cs[8]? := by kernel_rfl
@[simp] theorem fa146_9 (x : AVal) : afield Tryd.prog 146 x 9 = ashift 9 x := by kernel_rfl
@[simp] theorem fv146_9 (cs : List AVal) : afieldv Tryd.prog 146 (.agg cs) 9 = cs[9]? := by kernel_rfl
@[simp] theorem fa146_10 (x : AVal) : afield Tryd.prog 146 x 10 = ashift 10 x := by kernel_rfl
@[simp] theorem fv146_10 (cs : List AVal) : afieldv Tryd.prog 146 (.agg cs) 10 = cs[10]? := by kernel_rfl
@[simp] theorem bd146 (nl : Bool) (ps : List (Nat × AVal)) : abuild Tryd.prog nl 146 ps = afillL [(0, 1), (1, 1), (2, 1), (3, 1), (4, 1), (5, 1), (6, 1), (7, 1), (8, 1), (9, 1), (10, 1)] (if nl then [.int .u64 0, .int .u64 0, .int .u32 0, .int .u8 0, .int .u8 0, .int .u8 0, .int .u8 0, .nilf, .nilp, .int .i32 0, .int .i32 0] else [.int .u64 0, .int .u64 0, .int .u32 0, .int .u8 0, .int .u8 0, .int .u8 0, .int .u8 0, .nilf, .nilp, .int .i32 0, .int .i32 0]) ps := by cases nl <;> kernel_rfl
end Go.Proofs.YtleimfinniclgaaDoor.M
