/- Texts of this claim, joined: The machine is right, operation by operation (4): memory. -/
import Derived.Test.YtleimfinniclgaaGreatDoorProg
import Derived.KernelRfl
import Derived.Laws.StructEq
import Derived.Laws.Tables
import Derived.Test.YtleimfinniclgaaGreatDoorJ1
/- The types of this program, as the machine reads them: by program. -/
namespace Go.Proofs.YtleimfinniclgaaGreatDoor.M
open Go.Proofs
set_option maxRecDepth 100000
@[simp] theorem sz1 : sizeT Tryz.prog 1 = 1 := by kernel_rfl
@[simp] theorem ag1 : isAggT Tryz.prog 1 = some false := by kernel_rfl
@[simp] theorem zc1 : zcells Tryz.prog 1 = some [(.nilf, false)] := by kernel_rfl
@[simp] theorem zt1 : zeroT Tryz.prog 1 = true := by kernel_rfl
@[simp] theorem sz2 : sizeT Tryz.prog 2 = 1 := by kernel_rfl
@[simp] theorem ag2 : isAggT Tryz.prog 2 = some false := by kernel_rfl
@[simp] theorem zc2 : zcells Tryz.prog 2 = some [(.int .i64 0, false)] := by kernel_rfl
@[simp] theorem zt2 : zeroT Tryz.prog 2 = true := by kernel_rfl
@[simp] theorem sz3 : sizeT Tryz.prog 3 = 1 := by kernel_rfl
@[simp] theorem ag3 : isAggT Tryz.prog 3 = some false := by kernel_rfl
@[simp] theorem zc3 : zcells Tryz.prog 3 = some [(.int .i64 0, false)] := by kernel_rfl
@[simp] theorem zt3 : zeroT Tryz.prog 3 = true := by kernel_rfl
@[simp] theorem sz4 : sizeT Tryz.prog 4 = 1 := by kernel_rfl
@[simp] theorem ag4 : isAggT Tryz.prog 4 = some false := by kernel_rfl
@[simp] theorem zc4 : zcells Tryz.prog 4 = some [(.bool false, false)] := by kernel_rfl
@[simp] theorem zt4 : zeroT Tryz.prog 4 = true := by kernel_rfl
@[simp] theorem un4 : Tryz.prog.underlying 4 = some .bool := by kernel_rfl
@[simp] theorem sz5 : sizeT Tryz.prog 5 = 1 := by kernel_rfl
@[simp] theorem ag5 : isAggT Tryz.prog 5 = some false := by kernel_rfl
@[simp] theorem zc5 : zcells Tryz.prog 5 = some [(.int .u8 0, false)] := by kernel_rfl
@[simp] theorem zt5 : zeroT Tryz.prog 5 = true := by kernel_rfl
@[simp] theorem sz6 : sizeT Tryz.prog 6 = 1 := by kernel_rfl
@[simp] theorem ag6 : isAggT Tryz.prog 6 = some false := by kernel_rfl
@[simp] theorem zc6 : zcells Tryz.prog 6 = some [(.int .u8 0, false)] := by kernel_rfl
@[simp] theorem zt6 : zeroT Tryz.prog 6 = true := by kernel_rfl
@[simp] theorem sz7 : sizeT Tryz.prog 7 = 4 := by kernel_rfl
@[simp] theorem ag7 : isAggT Tryz.prog 7 = some true := by kernel_rfl
@[simp] theorem zt7 : zeroT Tryz.prog 7 = true := by kernel_rfl
@[simp] theorem sz8 : sizeT Tryz.prog 8 = 4 := by kernel_rfl
@[simp] theorem ag8 : isAggT Tryz.prog 8 = some true := by kernel_rfl
@[simp] theorem zt8 : zeroT Tryz.prog 8 = true := by kernel_rfl
@[simp] theorem sz9 : sizeT Tryz.prog 9 = 1 := by kernel_rfl
@[simp] theorem ag9 : isAggT Tryz.prog 9 = some false := by kernel_rfl
@[simp] theorem zc9 : zcells Tryz.prog 9 = some [(.str ByteArray.empty, false)] := by kernel_rfl
@[simp] theorem zt9 : zeroT Tryz.prog 9 = true := by kernel_rfl
@[simp] theorem un9 : Tryz.prog.underlying 9 = some .string := by kernel_rfl
@[simp] theorem sz10 : sizeT Tryz.prog 10 = 1 := by kernel_rfl
@[simp] theorem ag10 : isAggT Tryz.prog 10 = some false := by kernel_rfl
@[simp] theorem zc10 : zcells Tryz.prog 10 = some [(.str ByteArray.empty, false)] := by kernel_rfl
@[simp] theorem zt10 : zeroT Tryz.prog 10 = true := by kernel_rfl
@[simp] theorem un10 : Tryz.prog.underlying 10 = some .string := by kernel_rfl
@[simp] theorem sz11 : sizeT Tryz.prog 11 = 1 := by kernel_rfl
@[simp] theorem ag11 : isAggT Tryz.prog 11 = some false := by kernel_rfl
@[simp] theorem zc11 : zcells Tryz.prog 11 = some [(.str ByteArray.empty, false)] := by kernel_rfl
@[simp] theorem zt11 : zeroT Tryz.prog 11 = true := by kernel_rfl
@[simp] theorem un11 : Tryz.prog.underlying 11 = some .string := by kernel_rfl
@[simp] theorem sz12 : sizeT Tryz.prog 12 = 1 := by kernel_rfl
@[simp] theorem ag12 : isAggT Tryz.prog 12 = some false := by kernel_rfl
@[simp] theorem zc12 : zcells Tryz.prog 12 = some [(.int .u64 0, false)] := by kernel_rfl
@[simp] theorem zt12 : zeroT Tryz.prog 12 = true := by kernel_rfl
@[simp] theorem sz13 : sizeT Tryz.prog 13 = 2 := by kernel_rfl
@[simp] theorem ag13 : isAggT Tryz.prog 13 = some true := by kernel_rfl
@[simp] theorem zt13 : zeroT Tryz.prog 13 = true := by kernel_rfl
@[simp] theorem sz14 : sizeT Tryz.prog 14 = 2 := by kernel_rfl
@[simp] theorem ag14 : isAggT Tryz.prog 14 = some true := by kernel_rfl
@[simp] theorem zt14 : zeroT Tryz.prog 14 = true := by kernel_rfl
@[simp] theorem sz15 : sizeT Tryz.prog 15 = 1 := by kernel_rfl
@[simp] theorem ag15 : isAggT Tryz.prog 15 = some false := by kernel_rfl
@[simp] theorem zc15 : zcells Tryz.prog 15 = some [(.nilp, false)] := by kernel_rfl
@[simp] theorem zt15 : zeroT Tryz.prog 15 = true := by kernel_rfl
@[simp] theorem sz16 : sizeT Tryz.prog 16 = 1 := by kernel_rfl
@[simp] theorem ag16 : isAggT Tryz.prog 16 = some false := by kernel_rfl
@[simp] theorem zc16 : zcells Tryz.prog 16 = some [(.nilp, false)] := by kernel_rfl
@[simp] theorem zt16 : zeroT Tryz.prog 16 = true := by kernel_rfl
@[simp] theorem sz17 : sizeT Tryz.prog 17 = 1 := by kernel_rfl
@[simp] theorem ag17 : isAggT Tryz.prog 17 = some false := by kernel_rfl
@[simp] theorem zc17 : zcells Tryz.prog 17 = some [(.nilp, false)] := by kernel_rfl
@[simp] theorem zt17 : zeroT Tryz.prog 17 = true := by kernel_rfl
@[simp] theorem sz18 : sizeT Tryz.prog 18 = 1 := by kernel_rfl
@[simp] theorem ag18 : isAggT Tryz.prog 18 = some true := by kernel_rfl
@[simp] theorem zc18 : zcells Tryz.prog 18 = some [(.nilp, false)] := by kernel_rfl
@[simp] theorem zt18 : zeroT Tryz.prog 18 = true := by kernel_rfl
@[simp] theorem fa18_0 (x : AVal) : afield Tryz.prog 18 x 0 = ashift 0 x := by kernel_rfl
@[simp] theorem fv18_0 (cs : List AVal) : afieldv Tryz.prog 18 (.agg cs) 0 = cs[0]? := by kernel_rfl
@[simp] theorem bd18 (nl : Bool) (ps : List (Nat × AVal)) : abuild Tryz.prog nl 18 ps = afillL [(0, 1)] (if nl then [.nilp] else [.nilp]) ps := by cases nl <;> kernel_rfl
@[simp] theorem sz19 : sizeT Tryz.prog 19 = 1 := by kernel_rfl
@[simp] theorem ag19 : isAggT Tryz.prog 19 = some true := by kernel_rfl
@[simp] theorem zc19 : zcells Tryz.prog 19 = some [(.nilp, false)] := by kernel_rfl
@[simp] theorem zt19 : zeroT Tryz.prog 19 = true := by kernel_rfl
@[simp] theorem fa19_0 (x : AVal) : afield Tryz.prog 19 x 0 = ashift 0 x := by kernel_rfl
@[simp] theorem fv19_0 (cs : List AVal) : afieldv Tryz.prog 19 (.agg cs) 0 = cs[0]? := by kernel_rfl
@[simp] theorem bd19 (nl : Bool) (ps : List (Nat × AVal)) : abuild Tryz.prog nl 19 ps = afillL [(0, 1)] (if nl then [.nilp] else [.nilp]) ps := by cases nl <;> kernel_rfl
@[simp] theorem sz21 : sizeT Tryz.prog 21 = 1 := by kernel_rfl
@[simp] theorem ag21 : isAggT Tryz.prog 21 = some false := by kernel_rfl
@[simp] theorem zc21 : zcells Tryz.prog 21 = some [(.int .i32 0, false)] := by kernel_rfl
@[simp] theorem zt21 : zeroT Tryz.prog 21 = true := by kernel_rfl
@[simp] theorem sz22 : sizeT Tryz.prog 22 = 1 := by kernel_rfl
@[simp] theorem ag22 : isAggT Tryz.prog 22 = some false := by kernel_rfl
@[simp] theorem zc22 : zcells Tryz.prog 22 = some [(.lst [], true)] := by kernel_rfl
@[simp] theorem zt22 : zeroT Tryz.prog 22 = true := by kernel_rfl
@[simp] theorem un22 : Tryz.prog.underlying 22 = some (.slice 3) := by kernel_rfl
@[simp] theorem st22 : slT Tryz.prog 22 = true := by kernel_rfl
@[simp] theorem ai22 : apInfo Tryz.prog 22 = some (3, 8, 1, false) := by kernel_rfl
@[simp] theorem sz23 : sizeT Tryz.prog 23 = 1 := by kernel_rfl
@[simp] theorem ag23 : isAggT Tryz.prog 23 = some false := by kernel_rfl
@[simp] theorem zc23 : zcells Tryz.prog 23 = some [(.nilp, false)] := by kernel_rfl
@[simp] theorem zt23 : zeroT Tryz.prog 23 = true := by kernel_rfl
@[simp] theorem sz24 : sizeT Tryz.prog 24 = 2 := by kernel_rfl
@[simp] theorem ag24 : isAggT Tryz.prog 24 = some true := by kernel_rfl
@[simp] theorem zc24 : zcells Tryz.prog 24 = some [(.lst [], true), (.int .i64 0, false)] := by kernel_rfl
@[simp] theorem zt24 : zeroT Tryz.prog 24 = true := by kernel_rfl
@[simp] theorem fa24_0 (x : AVal) : afield Tryz.prog 24 x 0 = ashift 0 x := by kernel_rfl
@[simp] theorem fv24_0 (cs : List AVal) : afieldv Tryz.prog 24 (.agg cs) 0 = cs[0]? := by kernel_rfl
@[simp] theorem fa24_1 (x : AVal) : afield Tryz.prog 24 x 1 = ashift 1 x := by kernel_rfl
@[simp] theorem fv24_1 (cs : List AVal) : afieldv Tryz.prog 24 (.agg cs) 1 = cs[1]? := by kernel_rfl
@[simp] theorem bd24 (nl : Bool) (ps : List (Nat × AVal)) : abuild Tryz.prog nl 24 ps = afillL [(0, 1), (1, 1)] (if nl then [.nils, .int .i64 0] else [.lst [], .int .i64 0]) ps := by cases nl <;> kernel_rfl
@[simp] theorem sz25 : sizeT Tryz.prog 25 = 2 := by kernel_rfl
@[simp] theorem ag25 : isAggT Tryz.prog 25 = some true := by kernel_rfl
@[simp] theorem zc25 : zcells Tryz.prog 25 = some [(.lst [], true), (.int .i64 0, false)] := by kernel_rfl
@[simp] theorem zt25 : zeroT Tryz.prog 25 = true := by kernel_rfl
@[simp] theorem fa25_0 (x : AVal) : afield Tryz.prog 25 x 0 = ashift 0 x := by kernel_rfl
@[simp] theorem fv25_0 (cs : List AVal) : afieldv Tryz.prog 25 (.agg cs) 0 = cs[0]? := by kernel_rfl
@[simp] theorem fa25_1 (x : AVal) : afield Tryz.prog 25 x 1 = ashift 1 x := by kernel_rfl
@[simp] theorem fv25_1 (cs : List AVal) : afieldv Tryz.prog 25 (.agg cs) 1 = cs[1]? := by kernel_rfl
@[simp] theorem bd25 (nl : Bool) (ps : List (Nat × AVal)) : abuild Tryz.prog nl 25 ps = afillL [(0, 1), (1, 1)] (if nl then [.nils, .int .i64 0] else [.lst [], .int .i64 0]) ps := by cases nl <;> kernel_rfl
@[simp] theorem sz26 : sizeT Tryz.prog 26 = 1 := by kernel_rfl
@[simp] theorem ag26 : isAggT Tryz.prog 26 = some false := by kernel_rfl
@[simp] theorem zc26 : zcells Tryz.prog 26 = some [(.lst [], true)] := by kernel_rfl
@[simp] theorem zt26 : zeroT Tryz.prog 26 = true := by kernel_rfl
@[simp] theorem un26 : Tryz.prog.underlying 26 = some (.slice 28) := by kernel_rfl
@[simp] theorem st26 : slT Tryz.prog 26 = true := by kernel_rfl
@[simp] theorem ai26 : apInfo Tryz.prog 26 = some (28, 56, 4, true) := by kernel_rfl
@[simp] theorem sz27 : sizeT Tryz.prog 27 = 4 := by kernel_rfl
@[simp] theorem ag27 : isAggT Tryz.prog 27 = some true := by kernel_rfl
@[simp] theorem zc27 : zcells Tryz.prog 27 = some [(.int .i64 0, false), (.int .i64 0, false), (.str ByteArray.empty, false), (.lst [], true)] := by kernel_rfl
@[simp] theorem zt27 : zeroT Tryz.prog 27 = true := by kernel_rfl
@[simp] theorem fa27_0 (x : AVal) : afield Tryz.prog 27 x 0 = ashift 0 x := by kernel_rfl
@[simp] theorem fv27_0 (cs : List AVal) : afieldv Tryz.prog 27 (.agg cs) 0 = cs[0]? := by kernel_rfl
@[simp] theorem fa27_1 (x : AVal) : afield Tryz.prog 27 x 1 = ashift 1 x := by kernel_rfl
@[simp] theorem fv27_1 (cs : List AVal) : afieldv Tryz.prog 27 (.agg cs) 1 = cs[1]? := by kernel_rfl
@[simp] theorem fa27_2 (x : AVal) : afield Tryz.prog 27 x 2 = ashift 2 x := by kernel_rfl
@[simp] theorem fv27_2 (cs : List AVal) : afieldv Tryz.prog 27 (.agg cs) 2 = cs[2]? := by kernel_rfl
@[simp] theorem fa27_3 (x : AVal) : afield Tryz.prog 27 x 3 = ashift 3 x := by kernel_rfl
@[simp] theorem fv27_3 (cs : List AVal) : afieldv Tryz.prog 27 (.agg cs) 3 = cs[3]? := by kernel_rfl
@[simp] theorem bd27 (nl : Bool) (ps : List (Nat × AVal)) : abuild Tryz.prog nl 27 ps = afillL [(0, 1), (1, 1), (2, 1), (3, 1)] (if nl then [.int .i64 0, .int .i64 0, .str ByteArray.empty, .nils] else [.int .i64 0, .int .i64 0, .str ByteArray.empty, .lst []]) ps := by cases nl <;> kernel_rfl
@[simp] theorem sz28 : sizeT Tryz.prog 28 = 4 := by kernel_rfl
@[simp] theorem ag28 : isAggT Tryz.prog 28 = some true := by kernel_rfl
@[simp] theorem zc28 : zcells Tryz.prog 28 = some [(.int .i64 0, false), (.int .i64 0, false), (.str ByteArray.empty, false), (.lst [], true)] := by kernel_rfl
@[simp] theorem zt28 : zeroT Tryz.prog 28 = true := by kernel_rfl
@[simp] theorem fa28_0 (x : AVal) : afield Tryz.prog 28 x 0 = ashift 0 x := by kernel_rfl
@[simp] theorem fv28_0 (cs : List AVal) : afieldv Tryz.prog 28 (.agg cs) 0 = cs[0]? := by kernel_rfl
@[simp] theorem fa28_1 (x : AVal) : afield Tryz.prog 28 x 1 = ashift 1 x := by kernel_rfl
@[simp] theorem fv28_1 (cs : List AVal) : afieldv Tryz.prog 28 (.agg cs) 1 = cs[1]? := by kernel_rfl
@[simp] theorem fa28_2 (x : AVal) : afield Tryz.prog 28 x 2 = ashift 2 x := by kernel_rfl
@[simp] theorem fv28_2 (cs : List AVal) : afieldv Tryz.prog 28 (.agg cs) 2 = cs[2]? := by kernel_rfl
@[simp] theorem fa28_3 (x : AVal) : afield Tryz.prog 28 x 3 = ashift 3 x := by kernel_rfl
@[simp] theorem fv28_3 (cs : List AVal) : afieldv Tryz.prog 28 (.agg cs) 3 = cs[3]? := by kernel_rfl
@[simp] theorem bd28 (nl : Bool) (ps : List (Nat × AVal)) : abuild Tryz.prog nl 28 ps = afillL [(0, 1), (1, 1), (2, 1), (3, 1)] (if nl then [.int .i64 0, .int .i64 0, .str ByteArray.empty, .nils] else [.int .i64 0, .int .i64 0, .str ByteArray.empty, .lst []]) ps := by cases nl <;> kernel_rfl
@[simp] theorem sz29 : sizeT Tryz.prog 29 = 1 := by kernel_rfl
@[simp] theorem ag29 : isAggT Tryz.prog 29 = some false := by kernel_rfl
@[simp] theorem zc29 : zcells Tryz.prog 29 = some [(.nilf, false)] := by kernel_rfl
@[simp] theorem zt29 : zeroT Tryz.prog 29 = true := by kernel_rfl
@[simp] theorem sz30 : sizeT Tryz.prog 30 = 1 := by kernel_rfl
@[simp] theorem ag30 : isAggT Tryz.prog 30 = some false := by kernel_rfl
@[simp] theorem zc30 : zcells Tryz.prog 30 = some [(.lst [], true)] := by kernel_rfl
@[simp] theorem zt30 : zeroT Tryz.prog 30 = true := by kernel_rfl
@[simp] theorem un30 : Tryz.prog.underlying 30 = some (.slice 110) := by kernel_rfl
@[simp] theorem st30 : slT Tryz.prog 30 = true := by kernel_rfl
@[simp] theorem ai30 : apInfo Tryz.prog 30 = some (110, 24, 2, true) := by kernel_rfl
@[simp] theorem sz31 : sizeT Tryz.prog 31 = 1 := by kernel_rfl
@[simp] theorem ag31 : isAggT Tryz.prog 31 = some false := by kernel_rfl
@[simp] theorem zc31 : zcells Tryz.prog 31 = some [(.nilf, false)] := by kernel_rfl
@[simp] theorem zt31 : zeroT Tryz.prog 31 = true := by kernel_rfl
@[simp] theorem sz32 : sizeT Tryz.prog 32 = 1 := by kernel_rfl
@[simp] theorem ag32 : isAggT Tryz.prog 32 = some false := by kernel_rfl
@[simp] theorem zc32 : zcells Tryz.prog 32 = some [(.int .i64 0, false)] := by kernel_rfl
@[simp] theorem zt32 : zeroT Tryz.prog 32 = true := by kernel_rfl
@[simp] theorem sz33 : sizeT Tryz.prog 33 = 1 := by kernel_rfl
@[simp] theorem ag33 : isAggT Tryz.prog 33 = some false := by kernel_rfl
@[simp] theorem zc33 : zcells Tryz.prog 33 = some [(.nilf, false)] := by kernel_rfl
@[simp] theorem zt33 : zeroT Tryz.prog 33 = true := by kernel_rfl
@[simp] theorem sz34 : sizeT Tryz.prog 34 = 1 := by kernel_rfl
@[simp] theorem ag34 : isAggT Tryz.prog 34 = some false := by kernel_rfl
@[simp] theorem zc34 : zcells Tryz.prog 34 = some [(.nilf, false)] := by kernel_rfl
@[simp] theorem zt34 : zeroT Tryz.prog 34 = true := by kernel_rfl
@[simp] theorem sz36 : sizeT Tryz.prog 36 = 1 := by kernel_rfl
@[simp] theorem ag36 : isAggT Tryz.prog 36 = some false := by kernel_rfl
@[simp] theorem zc36 : zcells Tryz.prog 36 = some [(.nilf, false)] := by kernel_rfl
@[simp] theorem zt36 : zeroT Tryz.prog 36 = true := by kernel_rfl
@[simp] theorem sz37 : sizeT Tryz.prog 37 = 1 := by kernel_rfl
@[simp] theorem ag37 : isAggT Tryz.prog 37 = some false := by kernel_rfl
@[simp] theorem zc37 : zcells Tryz.prog 37 = some [(.lst [], true)] := by kernel_rfl
@[simp] theorem zt37 : zeroT Tryz.prog 37 = true := by kernel_rfl
@[simp] theorem un37 : Tryz.prog.underlying 37 = some (.slice 9) := by kernel_rfl
@[simp] theorem st37 : slT Tryz.prog 37 = true := by kernel_rfl
@[simp] theorem ai37 : apInfo Tryz.prog 37 = some (9, 16, 1, false) := by kernel_rfl
@[simp] theorem sz39 : sizeT Tryz.prog 39 = 1 := by kernel_rfl
@[simp] theorem ag39 : isAggT Tryz.prog 39 = some false := by kernel_rfl
@[simp] theorem zc39 : zcells Tryz.prog 39 = some [(.nilf, false)] := by kernel_rfl
@[simp] theorem zt39 : zeroT Tryz.prog 39 = true := by kernel_rfl
@[simp] theorem sz40 : sizeT Tryz.prog 40 = 1 := by kernel_rfl
@[simp] theorem ag40 : isAggT Tryz.prog 40 = some false := by kernel_rfl
@[simp] theorem zc40 : zcells Tryz.prog 40 = some [(.nilf, false)] := by kernel_rfl
@[simp] theorem zt40 : zeroT Tryz.prog 40 = true := by kernel_rfl
@[simp] theorem sz41 : sizeT Tryz.prog 41 = 1 := by kernel_rfl
@[simp] theorem ag41 : isAggT Tryz.prog 41 = some false := by kernel_rfl
@[simp] theorem zc41 : zcells Tryz.prog 41 = some [(.nilf, false)] := by kernel_rfl
@[simp] theorem zt41 : zeroT Tryz.prog 41 = true := by kernel_rfl
@[simp] theorem sz42 : sizeT Tryz.prog 42 = 1 := by kernel_rfl
@[simp] theorem ag42 : isAggT Tryz.prog 42 = some false := by kernel_rfl
@[simp] theorem zc42 : zcells Tryz.prog 42 = some [(.nilf, false)] := by kernel_rfl
@[simp] theorem zt42 : zeroT Tryz.prog 42 = true := by kernel_rfl
@[simp] theorem sz43 : sizeT Tryz.prog 43 = 1 := by kernel_rfl
@[simp] theorem ag43 : isAggT Tryz.prog 43 = some false := by kernel_rfl
@[simp] theorem zc43 : zcells Tryz.prog 43 = some [(.nilm, false)] := by kernel_rfl
@[simp] theorem zt43 : zeroT Tryz.prog 43 = true := by kernel_rfl
@[simp] theorem un43 : Tryz.prog.underlying 43 = some (.map 9 3) := by kernel_rfl
@[simp] theorem sz44 : sizeT Tryz.prog 44 = 1 := by kernel_rfl
@[simp] theorem ag44 : isAggT Tryz.prog 44 = some false := by kernel_rfl
@[simp] theorem zc44 : zcells Tryz.prog 44 = some [(.nilf, false)] := by kernel_rfl
@[simp] theorem zt44 : zeroT Tryz.prog 44 = true := by kernel_rfl
@[simp] theorem sz45 : sizeT Tryz.prog 45 = 1 := by kernel_rfl
@[simp] theorem ag45 : isAggT Tryz.prog 45 = some false := by kernel_rfl
@[simp] theorem zc45 : zcells Tryz.prog 45 = some [(.nilf, false)] := by kernel_rfl
@[simp] theorem zt45 : zeroT Tryz.prog 45 = true := by kernel_rfl
@[simp] theorem sz46 : sizeT Tryz.prog 46 = 1 := by kernel_rfl
@[simp] theorem ag46 : isAggT Tryz.prog 46 = some false := by kernel_rfl
@[simp] theorem zc46 : zcells Tryz.prog 46 = some [(.nilf, false)] := by kernel_rfl
@[simp] theorem zt46 : zeroT Tryz.prog 46 = true := by kernel_rfl
@[simp] theorem sz47 : sizeT Tryz.prog 47 = 1 := by kernel_rfl
@[simp] theorem ag47 : isAggT Tryz.prog 47 = some false := by kernel_rfl
@[simp] theorem zc47 : zcells Tryz.prog 47 = some [(.nilf, false)] := by kernel_rfl
@[simp] theorem zt47 : zeroT Tryz.prog 47 = true := by kernel_rfl
@[simp] theorem sz48 : sizeT Tryz.prog 48 = 1 := by kernel_rfl
@[simp] theorem ag48 : isAggT Tryz.prog 48 = some false := by kernel_rfl
@[simp] theorem zc48 : zcells Tryz.prog 48 = some [(.nilf, false)] := by kernel_rfl
@[simp] theorem zt48 : zeroT Tryz.prog 48 = true := by kernel_rfl
@[simp] theorem sz49 : sizeT Tryz.prog 49 = 1 := by kernel_rfl
@[simp] theorem ag49 : isAggT Tryz.prog 49 = some false := by kernel_rfl
@[simp] theorem zc49 : zcells Tryz.prog 49 = some [(.nilf, false)] := by kernel_rfl
@[simp] theorem zt49 : zeroT Tryz.prog 49 = true := by kernel_rfl
@[simp] theorem sz50 : sizeT Tryz.prog 50 = 1 := by kernel_rfl
@[simp] theorem ag50 : isAggT Tryz.prog 50 = some false := by kernel_rfl
@[simp] theorem zc50 : zcells Tryz.prog 50 = some [(.lst [], true)] := by kernel_rfl
@[simp] theorem zt50 : zeroT Tryz.prog 50 = true := by kernel_rfl
@[simp] theorem un50 : Tryz.prog.underlying 50 = some (.slice 64) := by kernel_rfl
@[simp] theorem st50 : slT Tryz.prog 50 = true := by kernel_rfl
@[simp] theorem ai50 : apInfo Tryz.prog 50 = some (64, 32, 3, true) := by kernel_rfl
@[simp] theorem sz51 : sizeT Tryz.prog 51 = 1 := by kernel_rfl
@[simp] theorem ag51 : isAggT Tryz.prog 51 = some false := by kernel_rfl
@[simp] theorem zc51 : zcells Tryz.prog 51 = some [(.nilf, false)] := by kernel_rfl
@[simp] theorem zt51 : zeroT Tryz.prog 51 = true := by kernel_rfl
@[simp] theorem sz52 : sizeT Tryz.prog 52 = 1 := by kernel_rfl
@[simp] theorem ag52 : isAggT Tryz.prog 52 = some false := by kernel_rfl
@[simp] theorem zc52 : zcells Tryz.prog 52 = some [(.nilf, false)] := by kernel_rfl
@[simp] theorem zt52 : zeroT Tryz.prog 52 = true := by kernel_rfl
@[simp] theorem sz54 : sizeT Tryz.prog 54 = 1 := by kernel_rfl
@[simp] theorem ag54 : isAggT Tryz.prog 54 = some false := by kernel_rfl
@[simp] theorem zc54 : zcells Tryz.prog 54 = some [(.nilf, false)] := by kernel_rfl
@[simp] theorem zt54 : zeroT Tryz.prog 54 = true := by kernel_rfl
@[simp] theorem sz56 : sizeT Tryz.prog 56 = 1 := by kernel_rfl
@[simp] theorem ag56 : isAggT Tryz.prog 56 = some false := by kernel_rfl
@[simp] theorem zc56 : zcells Tryz.prog 56 = some [(.nilf, false)] := by kernel_rfl
@[simp] theorem zt56 : zeroT Tryz.prog 56 = true := by kernel_rfl
@[simp] theorem sz58 : sizeT Tryz.prog 58 = 1 := by kernel_rfl
@[simp] theorem ag58 : isAggT Tryz.prog 58 = some false := by kernel_rfl
@[simp] theorem zc58 : zcells Tryz.prog 58 = some [(.nilf, false)] := by kernel_rfl
@[simp] theorem zt58 : zeroT Tryz.prog 58 = true := by kernel_rfl
@[simp] theorem sz59 : sizeT Tryz.prog 59 = 1 := by kernel_rfl
@[simp] theorem ag59 : isAggT Tryz.prog 59 = some false := by kernel_rfl
@[simp] theorem zc59 : zcells Tryz.prog 59 = some [(.nilf, false)] := by kernel_rfl
@[simp] theorem zt59 : zeroT Tryz.prog 59 = true := by kernel_rfl
@[simp] theorem sz61 : sizeT Tryz.prog 61 = 1 := by kernel_rfl
@[simp] theorem ag61 : isAggT Tryz.prog 61 = some false := by kernel_rfl
@[simp] theorem zc61 : zcells Tryz.prog 61 = some [(.nilf, false)] := by kernel_rfl
@[simp] theorem zt61 : zeroT Tryz.prog 61 = true := by kernel_rfl
@[simp] theorem sz62 : sizeT Tryz.prog 62 = 1 := by kernel_rfl
@[simp] theorem ag62 : isAggT Tryz.prog 62 = some false := by kernel_rfl
@[simp] theorem zc62 : zcells Tryz.prog 62 = some [(.nilf, false)] := by kernel_rfl
@[simp] theorem zt62 : zeroT Tryz.prog 62 = true := by kernel_rfl
@[simp] theorem sz63 : sizeT Tryz.prog 63 = 3 := by kernel_rfl
@[simp] theorem ag63 : isAggT Tryz.prog 63 = some true := by kernel_rfl
@[simp] theorem zc63 : zcells Tryz.prog 63 = some [(.int .i64 0, false), (.int .i64 0, false), (.str ByteArray.empty, false)] := by kernel_rfl
@[simp] theorem zt63 : zeroT Tryz.prog 63 = true := by kernel_rfl
@[simp] theorem fa63_0 (x : AVal) : afield Tryz.prog 63 x 0 = ashift 0 x := by kernel_rfl
@[simp] theorem fv63_0 (cs : List AVal) : afieldv Tryz.prog 63 (.agg cs) 0 = cs[0]? := by kernel_rfl
@[simp] theorem fa63_1 (x : AVal) : afield Tryz.prog 63 x 1 = ashift 1 x := by kernel_rfl
@[simp] theorem fv63_1 (cs : List AVal) : afieldv Tryz.prog 63 (.agg cs) 1 = cs[1]? := by kernel_rfl
@[simp] theorem fa63_2 (x : AVal) : afield Tryz.prog 63 x 2 = ashift 2 x := by kernel_rfl
@[simp] theorem fv63_2 (cs : List AVal) : afieldv Tryz.prog 63 (.agg cs) 2 = cs[2]? := by kernel_rfl
@[simp] theorem bd63 (nl : Bool) (ps : List (Nat × AVal)) : abuild Tryz.prog nl 63 ps = afillL [(0, 1), (1, 1), (2, 1)] (if nl then [.int .i64 0, .int .i64 0, .str ByteArray.empty] else [.int .i64 0, .int .i64 0, .str ByteArray.empty]) ps := by cases nl <;> kernel_rfl
@[simp] theorem sz64 : sizeT Tryz.prog 64 = 3 := by kernel_rfl
@[simp] theorem ag64 : isAggT Tryz.prog 64 = some true := by kernel_rfl
@[simp] theorem zc64 : zcells Tryz.prog 64 = some [(.int .i64 0, false), (.int .i64 0, false), (.str ByteArray.empty, false)] := by kernel_rfl
@[simp] theorem zt64 : zeroT Tryz.prog 64 = true := by kernel_rfl
@[simp] theorem fa64_0 (x : AVal) : afield Tryz.prog 64 x 0 = ashift 0 x := by kernel_rfl
@[simp] theorem fv64_0 (cs : List AVal) : afieldv Tryz.prog 64 (.agg cs) 0 = cs[0]? := by kernel_rfl
@[simp] theorem fa64_1 (x : AVal) : afield Tryz.prog 64 x 1 = ashift 1 x := by kernel_rfl
@[simp] theorem fv64_1 (cs : List AVal) : afieldv Tryz.prog 64 (.agg cs) 1 = cs[1]? := by kernel_rfl
@[simp] theorem fa64_2 (x : AVal) : afield Tryz.prog 64 x 2 = ashift 2 x := by kernel_rfl
@[simp] theorem fv64_2 (cs : List AVal) : afieldv Tryz.prog 64 (.agg cs) 2 = cs[2]? := by kernel_rfl
@[simp] theorem bd64 (nl : Bool) (ps : List (Nat × AVal)) : abuild Tryz.prog nl 64 ps = afillL [(0, 1), (1, 1), (2, 1)] (if nl then [.int .i64 0, .int .i64 0, .str ByteArray.empty] else [.int .i64 0, .int .i64 0, .str ByteArray.empty]) ps := by cases nl <;> kernel_rfl
@[simp] theorem sz65 : sizeT Tryz.prog 65 = 1 := by kernel_rfl
@[simp] theorem ag65 : isAggT Tryz.prog 65 = some false := by kernel_rfl
@[simp] theorem zc65 : zcells Tryz.prog 65 = some [(.nilf, false)] := by kernel_rfl
@[simp] theorem zt65 : zeroT Tryz.prog 65 = true := by kernel_rfl
@[simp] theorem sz66 : sizeT Tryz.prog 66 = 1 := by kernel_rfl
@[simp] theorem ag66 : isAggT Tryz.prog 66 = some false := by kernel_rfl
@[simp] theorem zc66 : zcells Tryz.prog 66 = some [(.nilf, false)] := by kernel_rfl
@[simp] theorem zt66 : zeroT Tryz.prog 66 = true := by kernel_rfl
@[simp] theorem sz67 : sizeT Tryz.prog 67 = 1 := by kernel_rfl
@[simp] theorem ag67 : isAggT Tryz.prog 67 = some false := by kernel_rfl
@[simp] theorem zc67 : zcells Tryz.prog 67 = some [(.nilf, false)] := by kernel_rfl
@[simp] theorem zt67 : zeroT Tryz.prog 67 = true := by kernel_rfl
@[simp] theorem sz68 : sizeT Tryz.prog 68 = 1 := by kernel_rfl
@[simp] theorem ag68 : isAggT Tryz.prog 68 = some false := by kernel_rfl
@[simp] theorem zc68 : zcells Tryz.prog 68 = some [(.nilf, false)] := by kernel_rfl
@[simp] theorem zt68 : zeroT Tryz.prog 68 = true := by kernel_rfl
@[simp] theorem sz69 : sizeT Tryz.prog 69 = 1 := by kernel_rfl
@[simp] theorem ag69 : isAggT Tryz.prog 69 = some false := by kernel_rfl
@[simp] theorem zc69 : zcells Tryz.prog 69 = some [(.nilf, false)] := by kernel_rfl
@[simp] theorem zt69 : zeroT Tryz.prog 69 = true := by kernel_rfl
@[simp] theorem sz71 : sizeT Tryz.prog 71 = 1 := by kernel_rfl
@[simp] theorem ag71 : isAggT Tryz.prog 71 = some false := by kernel_rfl
@[simp] theorem zc71 : zcells Tryz.prog 71 = some [(.nilf, false)] := by kernel_rfl
@[simp] theorem zt71 : zeroT Tryz.prog 71 = true := by kernel_rfl
@[simp] theorem sz72 : sizeT Tryz.prog 72 = 1 := by kernel_rfl
@[simp] theorem ag72 : isAggT Tryz.prog 72 = some false := by kernel_rfl
@[simp] theorem zc72 : zcells Tryz.prog 72 = some [(.nilf, false)] := by kernel_rfl
@[simp] theorem zt72 : zeroT Tryz.prog 72 = true := by kernel_rfl
@[simp] theorem sz73 : sizeT Tryz.prog 73 = 1 := by kernel_rfl
@[simp] theorem ag73 : isAggT Tryz.prog 73 = some false := by kernel_rfl
@[simp] theorem zc73 : zcells Tryz.prog 73 = some [(.nilf, false)] := by kernel_rfl
@[simp] theorem zt73 : zeroT Tryz.prog 73 = true := by kernel_rfl
@[simp] theorem sz75 : sizeT Tryz.prog 75 = 1 := by kernel_rfl
@[simp] theorem ag75 : isAggT Tryz.prog 75 = some false := by kernel_rfl
@[simp] theorem zc75 : zcells Tryz.prog 75 = some [(.nilf, false)] := by kernel_rfl
@[simp] theorem zt75 : zeroT Tryz.prog 75 = true := by kernel_rfl
@[simp] theorem sz76 : sizeT Tryz.prog 76 = 1 := by kernel_rfl
@[simp] theorem ag76 : isAggT Tryz.prog 76 = some false := by kernel_rfl
@[simp] theorem zc76 : zcells Tryz.prog 76 = some [(.nilf, false)] := by kernel_rfl
@[simp] theorem zt76 : zeroT Tryz.prog 76 = true := by kernel_rfl
@[simp] theorem sz77 : sizeT Tryz.prog 77 = 1 := by kernel_rfl
@[simp] theorem ag77 : isAggT Tryz.prog 77 = some false := by kernel_rfl
@[simp] theorem zc77 : zcells Tryz.prog 77 = some [(.nilf, false)] := by kernel_rfl
@[simp] theorem zt77 : zeroT Tryz.prog 77 = true := by kernel_rfl
@[simp] theorem sz79 : sizeT Tryz.prog 79 = 1 := by kernel_rfl
@[simp] theorem ag79 : isAggT Tryz.prog 79 = some false := by kernel_rfl
@[simp] theorem zc79 : zcells Tryz.prog 79 = some [(.nilf, false)] := by kernel_rfl
@[simp] theorem zt79 : zeroT Tryz.prog 79 = true := by kernel_rfl
@[simp] theorem sz80 : sizeT Tryz.prog 80 = 1 := by kernel_rfl
@[simp] theorem ag80 : isAggT Tryz.prog 80 = some false := by kernel_rfl
@[simp] theorem zc80 : zcells Tryz.prog 80 = some [(.lst [], true)] := by kernel_rfl
@[simp] theorem zt80 : zeroT Tryz.prog 80 = true := by kernel_rfl
@[simp] theorem un80 : Tryz.prog.underlying 80 = some (.slice 164) := by kernel_rfl
@[simp] theorem st80 : slT Tryz.prog 80 = true := by kernel_rfl
@[simp] theorem ai80 : apInfo Tryz.prog 80 = some (164, 64, 3, true) := by kernel_rfl
@[simp] theorem sz81 : sizeT Tryz.prog 81 = 1 := by kernel_rfl
@[simp] theorem ag81 : isAggT Tryz.prog 81 = some false := by kernel_rfl
@[simp] theorem zc81 : zcells Tryz.prog 81 = some [(.lst [], true)] := by kernel_rfl
@[simp] theorem zt81 : zeroT Tryz.prog 81 = true := by kernel_rfl
@[simp] theorem un81 : Tryz.prog.underlying 81 = some (.slice 176) := by kernel_rfl
@[simp] theorem st81 : slT Tryz.prog 81 = true := by kernel_rfl
@[simp] theorem ai81 : apInfo Tryz.prog 81 = some (176, 216, 13, true) := by kernel_rfl
@[simp] theorem sz82 : sizeT Tryz.prog 82 = 2 := by kernel_rfl
@[simp] theorem ag82 : isAggT Tryz.prog 82 = some true := by kernel_rfl
@[simp] theorem zc82 : zcells Tryz.prog 82 = some [(.lst [], true), (.lst [], true)] := by kernel_rfl
@[simp] theorem zt82 : zeroT Tryz.prog 82 = true := by kernel_rfl
@[simp] theorem fa82_0 (x : AVal) : afield Tryz.prog 82 x 0 = ashift 0 x := by kernel_rfl
@[simp] theorem fv82_0 (cs : List AVal) : afieldv Tryz.prog 82 (.agg cs) 0 = cs[0]? := by kernel_rfl
@[simp] theorem fa82_1 (x : AVal) : afield Tryz.prog 82 x 1 = ashift 1 x := by kernel_rfl
@[simp] theorem fv82_1 (cs : List AVal) : afieldv Tryz.prog 82 (.agg cs) 1 = cs[1]? := by kernel_rfl
@[simp] theorem bd82 (nl : Bool) (ps : List (Nat × AVal)) : abuild Tryz.prog nl 82 ps = afillL [(0, 1), (1, 1)] (if nl then [.nils, .nils] else [.lst [], .lst []]) ps := by cases nl <;> kernel_rfl
@[simp] theorem sz83 : sizeT Tryz.prog 83 = 2 := by kernel_rfl
@[simp] theorem ag83 : isAggT Tryz.prog 83 = some true := by kernel_rfl
@[simp] theorem zc83 : zcells Tryz.prog 83 = some [(.lst [], true), (.lst [], true)] := by kernel_rfl
@[simp] theorem zt83 : zeroT Tryz.prog 83 = true := by kernel_rfl
@[simp] theorem fa83_0 (x : AVal) : afield Tryz.prog 83 x 0 = ashift 0 x := by kernel_rfl
@[simp] theorem fv83_0 (cs : List AVal) : afieldv Tryz.prog 83 (.agg cs) 0 = cs[0]? := by kernel_rfl
@[simp] theorem fa83_1 (x : AVal) : afield Tryz.prog 83 x 1 = ashift 1 x := by kernel_rfl
@[simp] theorem fv83_1 (cs : List AVal) : afieldv Tryz.prog 83 (.agg cs) 1 = cs[1]? := by kernel_rfl
@[simp] theorem bd83 (nl : Bool) (ps : List (Nat × AVal)) : abuild Tryz.prog nl 83 ps = afillL [(0, 1), (1, 1)] (if nl then [.nils, .nils] else [.lst [], .lst []]) ps := by cases nl <;> kernel_rfl
@[simp] theorem sz84 : sizeT Tryz.prog 84 = 1 := by kernel_rfl
@[simp] theorem ag84 : isAggT Tryz.prog 84 = some false := by kernel_rfl
@[simp] theorem zc84 : zcells Tryz.prog 84 = some [(.nilf, false)] := by kernel_rfl
@[simp] theorem zt84 : zeroT Tryz.prog 84 = true := by kernel_rfl
@[simp] theorem sz85 : sizeT Tryz.prog 85 = 1 := by kernel_rfl
@[simp] theorem ag85 : isAggT Tryz.prog 85 = some false := by kernel_rfl
@[simp] theorem zc85 : zcells Tryz.prog 85 = some [(.nilf, false)] := by kernel_rfl
@[simp] theorem zt85 : zeroT Tryz.prog 85 = true := by kernel_rfl
@[simp] theorem sz86 : sizeT Tryz.prog 86 = 1 := by kernel_rfl
@[simp] theorem ag86 : isAggT Tryz.prog 86 = some false := by kernel_rfl
@[simp] theorem zc86 : zcells Tryz.prog 86 = some [(.nilf, false)] := by kernel_rfl
@[simp] theorem zt86 : zeroT Tryz.prog 86 = true := by kernel_rfl
@[simp] theorem sz87 : sizeT Tryz.prog 87 = 1 := by kernel_rfl
@[simp] theorem ag87 : isAggT Tryz.prog 87 = some false := by kernel_rfl
@[simp] theorem zc87 : zcells Tryz.prog 87 = some [(.nilf, false)] := by kernel_rfl
@[simp] theorem zt87 : zeroT Tryz.prog 87 = true := by kernel_rfl
@[simp] theorem sz88 : sizeT Tryz.prog 88 = 1 := by kernel_rfl
@[simp] theorem ag88 : isAggT Tryz.prog 88 = some false := by kernel_rfl
@[simp] theorem zc88 : zcells Tryz.prog 88 = some [(.nilf, false)] := by kernel_rfl
@[simp] theorem zt88 : zeroT Tryz.prog 88 = true := by kernel_rfl
@[simp] theorem sz89 : sizeT Tryz.prog 89 = 1 := by kernel_rfl
@[simp] theorem ag89 : isAggT Tryz.prog 89 = some false := by kernel_rfl
@[simp] theorem zc89 : zcells Tryz.prog 89 = some [(.nilf, false)] := by kernel_rfl
@[simp] theorem zt89 : zeroT Tryz.prog 89 = true := by kernel_rfl
@[simp] theorem sz91 : sizeT Tryz.prog 91 = 1 := by kernel_rfl
@[simp] theorem ag91 : isAggT Tryz.prog 91 = some false := by kernel_rfl
@[simp] theorem zc91 : zcells Tryz.prog 91 = some [(.nilf, false)] := by kernel_rfl
@[simp] theorem zt91 : zeroT Tryz.prog 91 = true := by kernel_rfl
@[simp] theorem sz92 : sizeT Tryz.prog 92 = 1 := by kernel_rfl
@[simp] theorem ag92 : isAggT Tryz.prog 92 = some false := by kernel_rfl
@[simp] theorem zc92 : zcells Tryz.prog 92 = some [(.nilf, false)] := by kernel_rfl
@[simp] theorem zt92 : zeroT Tryz.prog 92 = true := by kernel_rfl
@[simp] theorem sz93 : sizeT Tryz.prog 93 = 1 := by kernel_rfl
@[simp] theorem ag93 : isAggT Tryz.prog 93 = some false := by kernel_rfl
@[simp] theorem zc93 : zcells Tryz.prog 93 = some [(.nilf, false)] := by kernel_rfl
@[simp] theorem zt93 : zeroT Tryz.prog 93 = true := by kernel_rfl
@[simp] theorem sz95 : sizeT Tryz.prog 95 = 1 := by kernel_rfl
@[simp] theorem ag95 : isAggT Tryz.prog 95 = some false := by kernel_rfl
@[simp] theorem zc95 : zcells Tryz.prog 95 = some [(.nilf, false)] := by kernel_rfl
@[simp] theorem zt95 : zeroT Tryz.prog 95 = true := by kernel_rfl
@[simp] theorem sz96 : sizeT Tryz.prog 96 = 1 := by kernel_rfl
@[simp] theorem ag96 : isAggT Tryz.prog 96 = some false := by kernel_rfl
@[simp] theorem zc96 : zcells Tryz.prog 96 = some [(.nilf, false)] := by kernel_rfl
@[simp] theorem zt96 : zeroT Tryz.prog 96 = true := by kernel_rfl
@[simp] theorem sz98 : sizeT Tryz.prog 98 = 1 := by kernel_rfl
@[simp] theorem ag98 : isAggT Tryz.prog 98 = some false := by kernel_rfl
@[simp] theorem zc98 : zcells Tryz.prog 98 = some [(.nilf, false)] := by kernel_rfl
@[simp] theorem zt98 : zeroT Tryz.prog 98 = true := by kernel_rfl
@[simp] theorem sz99 : sizeT Tryz.prog 99 = 1 := by kernel_rfl
@[simp] theorem ag99 : isAggT Tryz.prog 99 = some false := by kernel_rfl
@[simp] theorem zc99 : zcells Tryz.prog 99 = some [(.nilf, false)] := by kernel_rfl
@[simp] theorem zt99 : zeroT Tryz.prog 99 = true := by kernel_rfl
@[simp] theorem sz100 : sizeT Tryz.prog 100 = 1 := by kernel_rfl
@[simp] theorem ag100 : isAggT Tryz.prog 100 = some false := by kernel_rfl
@[simp] theorem zc100 : zcells Tryz.prog 100 = some [(.nilf, false)] := by kernel_rfl
@[simp] theorem zt100 : zeroT Tryz.prog 100 = true := by kernel_rfl
@[simp] theorem sz101 : sizeT Tryz.prog 101 = 1 := by kernel_rfl
@[simp] theorem ag101 : isAggT Tryz.prog 101 = some false := by kernel_rfl
@[simp] theorem zc101 : zcells Tryz.prog 101 = some [(.nilf, false)] := by kernel_rfl
@[simp] theorem zt101 : zeroT Tryz.prog 101 = true := by kernel_rfl
@[simp] theorem sz103 : sizeT Tryz.prog 103 = 1 := by kernel_rfl
@[simp] theorem ag103 : isAggT Tryz.prog 103 = some false := by kernel_rfl
@[simp] theorem zc103 : zcells Tryz.prog 103 = some [(.nilf, false)] := by kernel_rfl
@[simp] theorem zt103 : zeroT Tryz.prog 103 = true := by kernel_rfl
@[simp] theorem sz104 : sizeT Tryz.prog 104 = 1 := by kernel_rfl
@[simp] theorem ag104 : isAggT Tryz.prog 104 = some false := by kernel_rfl
@[simp] theorem zc104 : zcells Tryz.prog 104 = some [(.nilf, false)] := by kernel_rfl
@[simp] theorem zt104 : zeroT Tryz.prog 104 = true := by kernel_rfl
@[simp] theorem sz105 : sizeT Tryz.prog 105 = 1 := by kernel_rfl
@[simp] theorem ag105 : isAggT Tryz.prog 105 = some false := by kernel_rfl
@[simp] theorem zc105 : zcells Tryz.prog 105 = some [(.nilp, false)] := by kernel_rfl
@[simp] theorem zt105 : zeroT Tryz.prog 105 = true := by kernel_rfl
@[simp] theorem sz106 : sizeT Tryz.prog 106 = 1 := by kernel_rfl
@[simp] theorem ag106 : isAggT Tryz.prog 106 = some false := by kernel_rfl
@[simp] theorem zc106 : zcells Tryz.prog 106 = some [(.nilf, false)] := by kernel_rfl
@[simp] theorem zt106 : zeroT Tryz.prog 106 = true := by kernel_rfl
@[simp] theorem sz107 : sizeT Tryz.prog 107 = 1 := by kernel_rfl
@[simp] theorem ag107 : isAggT Tryz.prog 107 = some false := by kernel_rfl
@[simp] theorem zc107 : zcells Tryz.prog 107 = some [(.nilf, false)] := by kernel_rfl
@[simp] theorem zt107 : zeroT Tryz.prog 107 = true := by kernel_rfl
@[simp] theorem sz108 : sizeT Tryz.prog 108 = 1 := by kernel_rfl
@[simp] theorem ag108 : isAggT Tryz.prog 108 = some false := by kernel_rfl
@[simp] theorem zc108 : zcells Tryz.prog 108 = some [(.nilf, false)] := by kernel_rfl
@[simp] theorem zt108 : zeroT Tryz.prog 108 = true := by kernel_rfl
@[simp] theorem sz109 : sizeT Tryz.prog 109 = 2 := by kernel_rfl
@[simp] theorem ag109 : isAggT Tryz.prog 109 = some true := by kernel_rfl
@[simp] theorem zc109 : zcells Tryz.prog 109 = some [(.str ByteArray.empty, false), (.int .i64 0, false)] := by kernel_rfl
@[simp] theorem zt109 : zeroT Tryz.prog 109 = true := by kernel_rfl
@[simp] theorem fa109_0 (x : AVal) : afield Tryz.prog 109 x 0 = ashift 0 x := by kernel_rfl
@[simp] theorem fv109_0 (cs : List AVal) : afieldv Tryz.prog 109 (.agg cs) 0 = cs[0]? := by kernel_rfl
@[simp] theorem fa109_1 (x : AVal) : afield Tryz.prog 109 x 1 = ashift 1 x := by kernel_rfl
@[simp] theorem fv109_1 (cs : List AVal) : afieldv Tryz.prog 109 (.agg cs) 1 = cs[1]? := by kernel_rfl
@[simp] theorem bd109 (nl : Bool) (ps : List (Nat × AVal)) : abuild Tryz.prog nl 109 ps = afillL [(0, 1), (1, 1)] (if nl then [.str ByteArray.empty, .int .i64 0] else [.str ByteArray.empty, .int .i64 0]) ps := by cases nl <;> kernel_rfl
@[simp] theorem sz110 : sizeT Tryz.prog 110 = 2 := by kernel_rfl
@[simp] theorem ag110 : isAggT Tryz.prog 110 = some true := by kernel_rfl
@[simp] theorem zc110 : zcells Tryz.prog 110 = some [(.str ByteArray.empty, false), (.int .i64 0, false)] := by kernel_rfl
@[simp] theorem zt110 : zeroT Tryz.prog 110 = true := by kernel_rfl
@[simp] theorem fa110_0 (x : AVal) : afield Tryz.prog 110 x 0 = ashift 0 x := by kernel_rfl
@[simp] theorem fv110_0 (cs : List AVal) : afieldv Tryz.prog 110 (.agg cs) 0 = cs[0]? := by kernel_rfl
@[simp] theorem fa110_1 (x : AVal) : afield Tryz.prog 110 x 1 = ashift 1 x := by kernel_rfl
@[simp] theorem fv110_1 (cs : List AVal) : afieldv Tryz.prog 110 (.agg cs) 1 = cs[1]? := by kernel_rfl
@[simp] theorem bd110 (nl : Bool) (ps : List (Nat × AVal)) : abuild Tryz.prog nl 110 ps = afillL [(0, 1), (1, 1)] (if nl then [.str ByteArray.empty, .int .i64 0] else [.str ByteArray.empty, .int .i64 0]) ps := by cases nl <;> kernel_rfl
@[simp] theorem sz111 : sizeT Tryz.prog 111 = 1 := by kernel_rfl
@[simp] theorem ag111 : isAggT Tryz.prog 111 = some false := by kernel_rfl
@[simp] theorem zc111 : zcells Tryz.prog 111 = some [(.nilf, false)] := by kernel_rfl
@[simp] theorem zt111 : zeroT Tryz.prog 111 = true := by kernel_rfl
@[simp] theorem sz112 : sizeT Tryz.prog 112 = 1 := by kernel_rfl
@[simp] theorem ag112 : isAggT Tryz.prog 112 = some false := by kernel_rfl
@[simp] theorem zc112 : zcells Tryz.prog 112 = some [(.nilf, false)] := by kernel_rfl
@[simp] theorem zt112 : zeroT Tryz.prog 112 = true := by kernel_rfl
@[simp] theorem sz113 : sizeT Tryz.prog 113 = 1 := by kernel_rfl
@[simp] theorem ag113 : isAggT Tryz.prog 113 = some false := by kernel_rfl
@[simp] theorem zc113 : zcells Tryz.prog 113 = some [(.nilf, false)] := by kernel_rfl
@[simp] theorem zt113 : zeroT Tryz.prog 113 = true := by kernel_rfl
@[simp] theorem sz114 : sizeT Tryz.prog 114 = 1 := by kernel_rfl
@[simp] theorem ag114 : isAggT Tryz.prog 114 = some false := by kernel_rfl
@[simp] theorem zc114 : zcells Tryz.prog 114 = some [(.nilf, false)] := by kernel_rfl
@[simp] theorem zt114 : zeroT Tryz.prog 114 = true := by kernel_rfl
@[simp] theorem sz115 : sizeT Tryz.prog 115 = 1 := by kernel_rfl
@[simp] theorem ag115 : isAggT Tryz.prog 115 = some false := by kernel_rfl
@[simp] theorem zc115 : zcells Tryz.prog 115 = some [(.nilf, false)] := by kernel_rfl
@[simp] theorem zt115 : zeroT Tryz.prog 115 = true := by kernel_rfl
@[simp] theorem sz116 : sizeT Tryz.prog 116 = 1 := by kernel_rfl
@[simp] theorem ag116 : isAggT Tryz.prog 116 = some false := by kernel_rfl
@[simp] theorem zc116 : zcells Tryz.prog 116 = some [(.nilf, false)] := by kernel_rfl
@[simp] theorem zt116 : zeroT Tryz.prog 116 = true := by kernel_rfl
@[simp] theorem sz117 : sizeT Tryz.prog 117 = 1 := by kernel_rfl
@[simp] theorem ag117 : isAggT Tryz.prog 117 = some false := by kernel_rfl
@[simp] theorem zc117 : zcells Tryz.prog 117 = some [(.lst [], true)] := by kernel_rfl
@[simp] theorem zt117 : zeroT Tryz.prog 117 = true := by kernel_rfl
@[simp] theorem un117 : Tryz.prog.underlying 117 = some (.slice 32) := by kernel_rfl
@[simp] theorem st117 : slT Tryz.prog 117 = true := by kernel_rfl
@[simp] theorem ai117 : apInfo Tryz.prog 117 = some (32, 8, 1, false) := by kernel_rfl
@[simp] theorem sz118 : sizeT Tryz.prog 118 = 1 := by kernel_rfl
@[simp] theorem ag118 : isAggT Tryz.prog 118 = some false := by kernel_rfl
@[simp] theorem zc118 : zcells Tryz.prog 118 = some [(.nilf, false)] := by kernel_rfl
@[simp] theorem zt118 : zeroT Tryz.prog 118 = true := by kernel_rfl
@[simp] theorem sz119 : sizeT Tryz.prog 119 = 1 := by kernel_rfl
@[simp] theorem ag119 : isAggT Tryz.prog 119 = some false := by kernel_rfl
@[simp] theorem zc119 : zcells Tryz.prog 119 = some [(.nilf, false)] := by kernel_rfl
@[simp] theorem zt119 : zeroT Tryz.prog 119 = true := by kernel_rfl
@[simp] theorem sz120 : sizeT Tryz.prog 120 = 1 := by kernel_rfl
@[simp] theorem ag120 : isAggT Tryz.prog 120 = some false := by kernel_rfl
@[simp] theorem zc120 : zcells Tryz.prog 120 = some [(.nilf, false)] := by kernel_rfl
@[simp] theorem zt120 : zeroT Tryz.prog 120 = true := by kernel_rfl
@[simp] theorem sz121 : sizeT Tryz.prog 121 = 1 := by kernel_rfl
@[simp] theorem ag121 : isAggT Tryz.prog 121 = some false := by kernel_rfl
@[simp] theorem zc121 : zcells Tryz.prog 121 = some [(.nilf, false)] := by kernel_rfl
@[simp] theorem zt121 : zeroT Tryz.prog 121 = true := by kernel_rfl
@[simp] theorem sz122 : sizeT Tryz.prog 122 = 1 := by kernel_rfl
@[simp] theorem ag122 : isAggT Tryz.prog 122 = some false := by kernel_rfl
@[simp] theorem zc122 : zcells Tryz.prog 122 = some [(.nilf, false)] := by kernel_rfl
@[simp] theorem zt122 : zeroT Tryz.prog 122 = true := by kernel_rfl
@[simp] theorem sz123 : sizeT Tryz.prog 123 = 1 := by kernel_rfl
@[simp] theorem ag123 : isAggT Tryz.prog 123 = some false := by kernel_rfl
@[simp] theorem zc123 : zcells Tryz.prog 123 = some [(.nilf, false)] := by kernel_rfl
@[simp] theorem zt123 : zeroT Tryz.prog 123 = true := by kernel_rfl
@[simp] theorem sz124 : sizeT Tryz.prog 124 = 1 := by kernel_rfl
@[simp] theorem ag124 : isAggT Tryz.prog 124 = some false := by kernel_rfl
@[simp] theorem zc124 : zcells Tryz.prog 124 = some [(.nilf, false)] := by kernel_rfl
@[simp] theorem zt124 : zeroT Tryz.prog 124 = true := by kernel_rfl
@[simp] theorem sz125 : sizeT Tryz.prog 125 = 1 := by kernel_rfl
@[simp] theorem ag125 : isAggT Tryz.prog 125 = some false := by kernel_rfl
@[simp] theorem zc125 : zcells Tryz.prog 125 = some [(.nilf, false)] := by kernel_rfl
@[simp] theorem zt125 : zeroT Tryz.prog 125 = true := by kernel_rfl
@[simp] theorem sz126 : sizeT Tryz.prog 126 = 1 := by kernel_rfl
@[simp] theorem ag126 : isAggT Tryz.prog 126 = some false := by kernel_rfl
@[simp] theorem zc126 : zcells Tryz.prog 126 = some [(.nilf, false)] := by kernel_rfl
@[simp] theorem zt126 : zeroT Tryz.prog 126 = true := by kernel_rfl
@[simp] theorem sz127 : sizeT Tryz.prog 127 = 1 := by kernel_rfl
@[simp] theorem ag127 : isAggT Tryz.prog 127 = some false := by kernel_rfl
@[simp] theorem zc127 : zcells Tryz.prog 127 = some [(.nilf, false)] := by kernel_rfl
@[simp] theorem zt127 : zeroT Tryz.prog 127 = true := by kernel_rfl
@[simp] theorem sz128 : sizeT Tryz.prog 128 = 1 := by kernel_rfl
@[simp] theorem ag128 : isAggT Tryz.prog 128 = some false := by kernel_rfl
@[simp] theorem zc128 : zcells Tryz.prog 128 = some [(.nilf, false)] := by kernel_rfl
@[simp] theorem zt128 : zeroT Tryz.prog 128 = true := by kernel_rfl
@[simp] theorem sz129 : sizeT Tryz.prog 129 = 1 := by kernel_rfl
@[simp] theorem ag129 : isAggT Tryz.prog 129 = some false := by kernel_rfl
@[simp] theorem zc129 : zcells Tryz.prog 129 = some [(.nilf, false)] := by kernel_rfl
@[simp] theorem zt129 : zeroT Tryz.prog 129 = true := by kernel_rfl
@[simp] theorem sz130 : sizeT Tryz.prog 130 = 1 := by kernel_rfl
@[simp] theorem ag130 : isAggT Tryz.prog 130 = some false := by kernel_rfl
@[simp] theorem zc130 : zcells Tryz.prog 130 = some [(.nilf, false)] := by kernel_rfl
@[simp] theorem zt130 : zeroT Tryz.prog 130 = true := by kernel_rfl
@[simp] theorem sz131 : sizeT Tryz.prog 131 = 1 := by kernel_rfl
@[simp] theorem ag131 : isAggT Tryz.prog 131 = some false := by kernel_rfl
@[simp] theorem zc131 : zcells Tryz.prog 131 = some [(.lst [], true)] := by kernel_rfl
@[simp] theorem zt131 : zeroT Tryz.prog 131 = true := by kernel_rfl
@[simp] theorem un131 : Tryz.prog.underlying 131 = some (.slice 134) := by kernel_rfl
@[simp] theorem st131 : slT Tryz.prog 131 = true := by kernel_rfl
@[simp] theorem ai131 : apInfo Tryz.prog 131 = some (134, 8, 1, false) := by kernel_rfl
@[simp] theorem sz132 : sizeT Tryz.prog 132 = 1 := by kernel_rfl
@[simp] theorem ag132 : isAggT Tryz.prog 132 = some false := by kernel_rfl
@[simp] theorem zc132 : zcells Tryz.prog 132 = some [(.nilf, false)] := by kernel_rfl
@[simp] theorem zt132 : zeroT Tryz.prog 132 = true := by kernel_rfl
@[simp] theorem sz133 : sizeT Tryz.prog 133 = 1 := by kernel_rfl
@[simp] theorem ag133 : isAggT Tryz.prog 133 = some false := by kernel_rfl
@[simp] theorem zc133 : zcells Tryz.prog 133 = some [(.nilf, false)] := by kernel_rfl
@[simp] theorem zt133 : zeroT Tryz.prog 133 = true := by kernel_rfl
@[simp] theorem sz134 : sizeT Tryz.prog 134 = 1 := by kernel_rfl
@[simp] theorem ag134 : isAggT Tryz.prog 134 = some false := by kernel_rfl
@[simp] theorem zc134 : zcells Tryz.prog 134 = some [(.nilf, false)] := by kernel_rfl
@[simp] theorem zt134 : zeroT Tryz.prog 134 = true := by kernel_rfl
@[simp] theorem sz136 : sizeT Tryz.prog 136 = 1 := by kernel_rfl
@[simp] theorem ag136 : isAggT Tryz.prog 136 = some false := by kernel_rfl
@[simp] theorem zc136 : zcells Tryz.prog 136 = some [(.nilp, false)] := by kernel_rfl
@[simp] theorem zt136 : zeroT Tryz.prog 136 = true := by kernel_rfl
@[simp] theorem sz137 : sizeT Tryz.prog 137 = 1 := by kernel_rfl
@[simp] theorem ag137 : isAggT Tryz.prog 137 = some false := by kernel_rfl
@[simp] theorem zc137 : zcells Tryz.prog 137 = some [(.nilp, false)] := by kernel_rfl
@[simp] theorem zt137 : zeroT Tryz.prog 137 = true := by kernel_rfl
@[simp] theorem sz138 : sizeT Tryz.prog 138 = 1 := by kernel_rfl
@[simp] theorem ag138 : isAggT Tryz.prog 138 = some false := by kernel_rfl
@[simp] theorem zc138 : zcells Tryz.prog 138 = some [(.lst [], true)] := by kernel_rfl
@[simp] theorem zt138 : zeroT Tryz.prog 138 = true := by kernel_rfl
@[simp] theorem un138 : Tryz.prog.underlying 138 = some (.slice 5) := by kernel_rfl
@[simp] theorem st138 : slT Tryz.prog 138 = true := by kernel_rfl
@[simp] theorem ai138 : apInfo Tryz.prog 138 = some (5, 1, 1, false) := by kernel_rfl
@[simp] theorem sz139 : sizeT Tryz.prog 139 = 2 := by kernel_rfl
@[simp] theorem ag139 : isAggT Tryz.prog 139 = some true := by kernel_rfl
@[simp] theorem zc139 : zcells Tryz.prog 139 = some [(.nilp, false), (.lst [], true)] := by kernel_rfl
@[simp] theorem zt139 : zeroT Tryz.prog 139 = true := by kernel_rfl
@[simp] theorem fa139_0 (x : AVal) : afield Tryz.prog 139 x 0 = ashift 0 x := by kernel_rfl
@[simp] theorem fv139_0 (cs : List AVal) : afieldv Tryz.prog 139 (.agg cs) 0 = cs[0]? := by kernel_rfl
@[simp] theorem fa139_1 (x : AVal) : afield Tryz.prog 139 x 1 = ashift 1 x := by kernel_rfl
@[simp] theorem fv139_1 (cs : List AVal) : afieldv Tryz.prog 139 (.agg cs) 1 = cs[1]? := by kernel_rfl
@[simp] theorem bd139 (nl : Bool) (ps : List (Nat × AVal)) : abuild Tryz.prog nl 139 ps = afillL [(0, 1), (1, 1)] (if nl then [.nilp, .nils] else [.nilp, .lst []]) ps := by cases nl <;> kernel_rfl
@[simp] theorem sz140 : sizeT Tryz.prog 140 = 2 := by kernel_rfl
@[simp] theorem ag140 : isAggT Tryz.prog 140 = some true := by kernel_rfl
@[simp] theorem zc140 : zcells Tryz.prog 140 = some [(.nilp, false), (.lst [], true)] := by kernel_rfl
@[simp] theorem zt140 : zeroT Tryz.prog 140 = true := by kernel_rfl
@[simp] theorem fa140_0 (x : AVal) : afield Tryz.prog 140 x 0 = ashift 0 x := by kernel_rfl
@[simp] theorem fv140_0 (cs : List AVal) : afieldv Tryz.prog 140 (.agg cs) 0 = cs[0]? := by kernel_rfl
@[simp] theorem fa140_1 (x : AVal) : afield Tryz.prog 140 x 1 = ashift 1 x := by kernel_rfl
@[simp] theorem fv140_1 (cs : List AVal) : afieldv Tryz.prog 140 (.agg cs) 1 = cs[1]? := by kernel_rfl
@[simp] theorem bd140 (nl : Bool) (ps : List (Nat × AVal)) : abuild Tryz.prog nl 140 ps = afillL [(0, 1), (1, 1)] (if nl then [.nilp, .nils] else [.nilp, .lst []]) ps := by cases nl <;> kernel_rfl
@[simp] theorem sz141 : sizeT Tryz.prog 141 = 4 := by kernel_rfl
@[simp] theorem ag141 : isAggT Tryz.prog 141 = some true := by kernel_rfl
@[simp] theorem zc141 : zcells Tryz.prog 141 = some [(.nilp, false), (.lst [], true), (.int .i64 0, false), (.lst [], true)] := by kernel_rfl
@[simp] theorem zt141 : zeroT Tryz.prog 141 = true := by kernel_rfl
@[simp] theorem fa141_0 (x : AVal) : afield Tryz.prog 141 x 0 = ashift 0 x := by kernel_rfl
@[simp] theorem fv141_0 (cs : List AVal) : afieldv Tryz.prog 141 (.agg cs) 0 = if 0 + 2 ≤ cs.length then some (.agg ((cs.drop 0).take 2)) else none := by kernel_rfl
@[simp] theorem fa141_1 (x : AVal) : afield Tryz.prog 141 x 1 = ashift 2 x := by kernel_rfl
@[simp] theorem fv141_1 (cs : List AVal) : afieldv Tryz.prog 141 (.agg cs) 1 = cs[2]? := by kernel_rfl
@[simp] theorem fa141_2 (x : AVal) : afield Tryz.prog 141 x 2 = ashift 3 x := by kernel_rfl
@[simp] theorem fv141_2 (cs : List AVal) : afieldv Tryz.prog 141 (.agg cs) 2 = cs[3]? := by kernel_rfl
@[simp] theorem bd141 (nl : Bool) (ps : List (Nat × AVal)) : abuild Tryz.prog nl 141 ps = afillL [(0, 2), (2, 1), (3, 1)] (if nl then [.nilp, .nils, .int .i64 0, .nils] else [.nilp, .lst [], .int .i64 0, .lst []]) ps := by cases nl <;> kernel_rfl
@[simp] theorem sz142 : sizeT Tryz.prog 142 = 4 := by kernel_rfl
@[simp] theorem ag142 : isAggT Tryz.prog 142 = some true := by kernel_rfl
@[simp] theorem zc142 : zcells Tryz.prog 142 = some [(.nilp, false), (.lst [], true), (.int .i64 0, false), (.lst [], true)] := by kernel_rfl
@[simp] theorem zt142 : zeroT Tryz.prog 142 = true := by kernel_rfl
@[simp] theorem fa142_0 (x : AVal) : afield Tryz.prog 142 x 0 = ashift 0 x := by kernel_rfl
@[simp] theorem fv142_0 (cs : List AVal) : afieldv Tryz.prog 142 (.agg cs) 0 = if 0 + 2 ≤ cs.length then some (.agg ((cs.drop 0).take 2)) else none := by kernel_rfl
@[simp] theorem fa142_1 (x : AVal) : afield Tryz.prog 142 x 1 = ashift 2 x := by kernel_rfl
@[simp] theorem fv142_1 (cs : List AVal) : afieldv Tryz.prog 142 (.agg cs) 1 = cs[2]? := by kernel_rfl
@[simp] theorem fa142_2 (x : AVal) : afield Tryz.prog 142 x 2 = ashift 3 x := by kernel_rfl
@[simp] theorem fv142_2 (cs : List AVal) : afieldv Tryz.prog 142 (.agg cs) 2 = cs[3]? := by kernel_rfl
@[simp] theorem bd142 (nl : Bool) (ps : List (Nat × AVal)) : abuild Tryz.prog nl 142 ps = afillL [(0, 2), (2, 1), (3, 1)] (if nl then [.nilp, .nils, .int .i64 0, .nils] else [.nilp, .lst [], .int .i64 0, .lst []]) ps := by cases nl <;> kernel_rfl
@[simp] theorem sz143 : sizeT Tryz.prog 143 = 1 := by kernel_rfl
@[simp] theorem ag143 : isAggT Tryz.prog 143 = some false := by kernel_rfl
@[simp] theorem zc143 : zcells Tryz.prog 143 = some [(.nilf, false)] := by kernel_rfl
@[simp] theorem zt143 : zeroT Tryz.prog 143 = true := by kernel_rfl
@[simp] theorem sz144 : sizeT Tryz.prog 144 = 1 := by kernel_rfl
@[simp] theorem ag144 : isAggT Tryz.prog 144 = some false := by kernel_rfl
@[simp] theorem zc144 : zcells Tryz.prog 144 = some [(.nilf, false)] := by kernel_rfl
@[simp] theorem zt144 : zeroT Tryz.prog 144 = true := by kernel_rfl
@[simp] theorem sz145 : sizeT Tryz.prog 145 = 1 := by kernel_rfl
@[simp] theorem ag145 : isAggT Tryz.prog 145 = some false := by kernel_rfl
@[simp] theorem zc145 : zcells Tryz.prog 145 = some [(.nilf, false)] := by kernel_rfl
@[simp] theorem zt145 : zeroT Tryz.prog 145 = true := by kernel_rfl
@[simp] theorem sz146 : sizeT Tryz.prog 146 = 1 := by kernel_rfl
@[simp] theorem ag146 : isAggT Tryz.prog 146 = some false := by kernel_rfl
@[simp] theorem zc146 : zcells Tryz.prog 146 = some [(.nilf, false)] := by kernel_rfl
@[simp] theorem zt146 : zeroT Tryz.prog 146 = true := by kernel_rfl
@[simp] theorem sz147 : sizeT Tryz.prog 147 = 1 := by kernel_rfl
@[simp] theorem ag147 : isAggT Tryz.prog 147 = some false := by kernel_rfl
@[simp] theorem zc147 : zcells Tryz.prog 147 = some [(.nilf, false)] := by kernel_rfl
@[simp] theorem zt147 : zeroT Tryz.prog 147 = true := by kernel_rfl
@[simp] theorem sz148 : sizeT Tryz.prog 148 = 1 := by kernel_rfl
@[simp] theorem ag148 : isAggT Tryz.prog 148 = some false := by kernel_rfl
@[simp] theorem zc148 : zcells Tryz.prog 148 = some [(.nilp, false)] := by kernel_rfl
@[simp] theorem zt148 : zeroT Tryz.prog 148 = true := by kernel_rfl
@[simp] theorem sz149 : sizeT Tryz.prog 149 = 1 := by kernel_rfl
@[simp] theorem ag149 : isAggT Tryz.prog 149 = some false := by kernel_rfl
@[simp] theorem zc149 : zcells Tryz.prog 149 = some [(.nilf, false)] := by kernel_rfl
@[simp] theorem zt149 : zeroT Tryz.prog 149 = true := by kernel_rfl
@[simp] theorem sz150 : sizeT Tryz.prog 150 = 1 := by kernel_rfl
@[simp] theorem ag150 : isAggT Tryz.prog 150 = some false := by kernel_rfl
@[simp] theorem zc150 : zcells Tryz.prog 150 = some [(.nilf, false)] := by kernel_rfl
@[simp] theorem zt150 : zeroT Tryz.prog 150 = true := by kernel_rfl
@[simp] theorem sz151 : sizeT Tryz.prog 151 = 1 := by kernel_rfl
@[simp] theorem ag151 : isAggT Tryz.prog 151 = some false := by kernel_rfl
@[simp] theorem zc151 : zcells Tryz.prog 151 = some [(.nilp, false)] := by kernel_rfl
@[simp] theorem zt151 : zeroT Tryz.prog 151 = true := by kernel_rfl
@[simp] theorem sz152 : sizeT Tryz.prog 152 = 1 := by kernel_rfl
@[simp] theorem ag152 : isAggT Tryz.prog 152 = some false := by kernel_rfl
@[simp] theorem zc152 : zcells Tryz.prog 152 = some [(.lst [], true)] := by kernel_rfl
@[simp] theorem zt152 : zeroT Tryz.prog 152 = true := by kernel_rfl
@[simp] theorem un152 : Tryz.prog.underlying 152 = some (.slice 242) := by kernel_rfl
@[simp] theorem st152 : slT Tryz.prog 152 = true := by kernel_rfl
@[simp] theorem ai152 : apInfo Tryz.prog 152 = some (242, 40, 3, true) := by kernel_rfl
@[simp] theorem sz153 : sizeT Tryz.prog 153 = 1 := by kernel_rfl
@[simp] theorem ag153 : isAggT Tryz.prog 153 = some false := by kernel_rfl
@[simp] theorem zc153 : zcells Tryz.prog 153 = some [(.nilf, false)] := by kernel_rfl
@[simp] theorem zt153 : zeroT Tryz.prog 153 = true := by kernel_rfl
@[simp] theorem sz154 : sizeT Tryz.prog 154 = 3 := by kernel_rfl
@[simp] theorem ag154 : isAggT Tryz.prog 154 = some true := by kernel_rfl
@[simp] theorem zc154 : zcells Tryz.prog 154 = some [(.lst [], true), (.int .i64 0, false), (.bool false, false)] := by kernel_rfl
@[simp] theorem zt154 : zeroT Tryz.prog 154 = true := by kernel_rfl
@[simp] theorem fa154_0 (x : AVal) : afield Tryz.prog 154 x 0 = ashift 0 x := by kernel_rfl
@[simp] theorem fv154_0 (cs : List AVal) : afieldv Tryz.prog 154 (.agg cs) 0 = cs[0]? := by kernel_rfl
@[simp] theorem fa154_1 (x : AVal) : afield Tryz.prog 154 x 1 = ashift 1 x := by kernel_rfl
@[simp] theorem fv154_1 (cs : List AVal) : afieldv Tryz.prog 154 (.agg cs) 1 = cs[1]? := by kernel_rfl
@[simp] theorem fa154_2 (x : AVal) : afield Tryz.prog 154 x 2 = ashift 2 x := by kernel_rfl
@[simp] theorem fv154_2 (cs : List AVal) : afieldv Tryz.prog 154 (.agg cs) 2 = cs[2]? := by kernel_rfl
@[simp] theorem bd154 (nl : Bool) (ps : List (Nat × AVal)) : abuild Tryz.prog nl 154 ps = afillL [(0, 1), (1, 1), (2, 1)] (if nl then [.nils, .int .i64 0, .bool false] else [.lst [], .int .i64 0, .bool false]) ps := by cases nl <;> kernel_rfl
@[simp] theorem sz155 : sizeT Tryz.prog 155 = 3 := by kernel_rfl
@[simp] theorem ag155 : isAggT Tryz.prog 155 = some true := by kernel_rfl
@[simp] theorem zc155 : zcells Tryz.prog 155 = some [(.lst [], true), (.int .i64 0, false), (.bool false, false)] := by kernel_rfl
@[simp] theorem zt155 : zeroT Tryz.prog 155 = true := by kernel_rfl
@[simp] theorem fa155_0 (x : AVal) : afield Tryz.prog 155 x 0 = ashift 0 x := by kernel_rfl
@[simp] theorem fv155_0 (cs : List AVal) : afieldv Tryz.prog 155 (.agg cs) 0 = cs[0]? := by kernel_rfl
@[simp] theorem fa155_1 (x : AVal) : afield Tryz.prog 155 x 1 = ashift 1 x := by kernel_rfl
@[simp] theorem fv155_1 (cs : List AVal) : afieldv Tryz.prog 155 (.agg cs) 1 = cs[1]? := by kernel_rfl
@[simp] theorem fa155_2 (x : AVal) : afield Tryz.prog 155 x 2 = ashift 2 x := by kernel_rfl
@[simp] theorem fv155_2 (cs : List AVal) : afieldv Tryz.prog 155 (.agg cs) 2 = cs[2]? := by kernel_rfl
@[simp] theorem bd155 (nl : Bool) (ps : List (Nat × AVal)) : abuild Tryz.prog nl 155 ps = afillL [(0, 1), (1, 1), (2, 1)] (if nl then [.nils, .int .i64 0, .bool false] else [.lst [], .int .i64 0, .bool false]) ps := by cases nl <;> kernel_rfl
@[simp] theorem sz156 : sizeT Tryz.prog 156 = 1 := by kernel_rfl
@[simp] theorem ag156 : isAggT Tryz.prog 156 = some false := by kernel_rfl
@[simp] theorem zc156 : zcells Tryz.prog 156 = some [(.nilf, false)] := by kernel_rfl
@[simp] theorem zt156 : zeroT Tryz.prog 156 = true := by kernel_rfl
@[simp] theorem sz157 : sizeT Tryz.prog 157 = 1 := by kernel_rfl
@[simp] theorem ag157 : isAggT Tryz.prog 157 = some false := by kernel_rfl
@[simp] theorem zc157 : zcells Tryz.prog 157 = some [(.nilf, false)] := by kernel_rfl
@[simp] theorem zt157 : zeroT Tryz.prog 157 = true := by kernel_rfl
@[simp] theorem sz158 : sizeT Tryz.prog 158 = 1 := by kernel_rfl
@[simp] theorem ag158 : isAggT Tryz.prog 158 = some false := by kernel_rfl
@[simp] theorem zc158 : zcells Tryz.prog 158 = some [(.lst [], true)] := by kernel_rfl
@[simp] theorem zt158 : zeroT Tryz.prog 158 = true := by kernel_rfl
@[simp] theorem un158 : Tryz.prog.underlying 158 = some (.slice 160) := by kernel_rfl
@[simp] theorem st158 : slT Tryz.prog 158 = true := by kernel_rfl
@[simp] theorem ai158 : apInfo Tryz.prog 158 = some (160, 40, 2, true) := by kernel_rfl
@[simp] theorem sz159 : sizeT Tryz.prog 159 = 2 := by kernel_rfl
@[simp] theorem ag159 : isAggT Tryz.prog 159 = some true := by kernel_rfl
@[simp] theorem zc159 : zcells Tryz.prog 159 = some [(.str ByteArray.empty, false), (.lst [], true)] := by kernel_rfl
@[simp] theorem zt159 : zeroT Tryz.prog 159 = true := by kernel_rfl
@[simp] theorem fa159_0 (x : AVal) : afield Tryz.prog 159 x 0 = ashift 0 x := by kernel_rfl
@[simp] theorem fv159_0 (cs : List AVal) : afieldv Tryz.prog 159 (.agg cs) 0 = cs[0]? := by kernel_rfl
@[simp] theorem fa159_1 (x : AVal) : afield Tryz.prog 159 x 1 = ashift 1 x := by kernel_rfl
@[simp] theorem fv159_1 (cs : List AVal) : afieldv Tryz.prog 159 (.agg cs) 1 = cs[1]? := by kernel_rfl
@[simp] theorem bd159 (nl : Bool) (ps : List (Nat × AVal)) : abuild Tryz.prog nl 159 ps = afillL [(0, 1), (1, 1)] (if nl then [.str ByteArray.empty, .nils] else [.str ByteArray.empty, .lst []]) ps := by cases nl <;> kernel_rfl
@[simp] theorem sz160 : sizeT Tryz.prog 160 = 2 := by kernel_rfl
@[simp] theorem ag160 : isAggT Tryz.prog 160 = some true := by kernel_rfl
@[simp] theorem zc160 : zcells Tryz.prog 160 = some [(.str ByteArray.empty, false), (.lst [], true)] := by kernel_rfl
@[simp] theorem zt160 : zeroT Tryz.prog 160 = true := by kernel_rfl
@[simp] theorem fa160_0 (x : AVal) : afield Tryz.prog 160 x 0 = ashift 0 x := by kernel_rfl
@[simp] theorem fv160_0 (cs : List AVal) : afieldv Tryz.prog 160 (.agg cs) 0 = cs[0]? := by kernel_rfl
@[simp] theorem fa160_1 (x : AVal) : afield Tryz.prog 160 x 1 = ashift 1 x := by kernel_rfl
@[simp] theorem fv160_1 (cs : List AVal) : afieldv Tryz.prog 160 (.agg cs) 1 = cs[1]? := by kernel_rfl
@[simp] theorem bd160 (nl : Bool) (ps : List (Nat × AVal)) : abuild Tryz.prog nl 160 ps = afillL [(0, 1), (1, 1)] (if nl then [.str ByteArray.empty, .nils] else [.str ByteArray.empty, .lst []]) ps := by cases nl <;> kernel_rfl
@[simp] theorem sz161 : sizeT Tryz.prog 161 = 1 := by kernel_rfl
@[simp] theorem ag161 : isAggT Tryz.prog 161 = some false := by kernel_rfl
@[simp] theorem zc161 : zcells Tryz.prog 161 = some [(.nilf, false)] := by kernel_rfl
@[simp] theorem zt161 : zeroT Tryz.prog 161 = true := by kernel_rfl
@[simp] theorem sz162 : sizeT Tryz.prog 162 = 1 := by kernel_rfl
@[simp] theorem ag162 : isAggT Tryz.prog 162 = some false := by kernel_rfl
@[simp] theorem zc162 : zcells Tryz.prog 162 = some [(.nilf, false)] := by kernel_rfl
@[simp] theorem zt162 : zeroT Tryz.prog 162 = true := by kernel_rfl
@[simp] theorem sz163 : sizeT Tryz.prog 163 = 3 := by kernel_rfl
@[simp] theorem ag163 : isAggT Tryz.prog 163 = some true := by kernel_rfl
@[simp] theorem zc163 : zcells Tryz.prog 163 = some [(.str ByteArray.empty, false), (.lst [], true), (.lst [], true)] := by kernel_rfl
@[simp] theorem zt163 : zeroT Tryz.prog 163 = true := by kernel_rfl
@[simp] theorem fa163_0 (x : AVal) : afield Tryz.prog 163 x 0 = ashift 0 x := by kernel_rfl
@[simp] theorem fv163_0 (cs : List AVal) : afieldv Tryz.prog 163 (.agg cs) 0 = cs[0]? := by kernel_rfl
@[simp] theorem fa163_1 (x : AVal) : afield Tryz.prog 163 x 1 = ashift 1 x := by kernel_rfl
@[simp] theorem fv163_1 (cs : List AVal) : afieldv Tryz.prog 163 (.agg cs) 1 = cs[1]? := by kernel_rfl
@[simp] theorem fa163_2 (x : AVal) : afield Tryz.prog 163 x 2 = ashift 2 x := by kernel_rfl
@[simp] theorem fv163_2 (cs : List AVal) : afieldv Tryz.prog 163 (.agg cs) 2 = cs[2]? := by kernel_rfl
@[simp] theorem bd163 (nl : Bool) (ps : List (Nat × AVal)) : abuild Tryz.prog nl 163 ps = afillL [(0, 1), (1, 1), (2, 1)] (if nl then [.str ByteArray.empty, .nils, .nils] else [.str ByteArray.empty, .lst [], .lst []]) ps := by cases nl <;> kernel_rfl
@[simp] theorem sz164 : sizeT Tryz.prog 164 = 3 := by kernel_rfl
@[simp] theorem ag164 : isAggT Tryz.prog 164 = some true := by kernel_rfl
@[simp] theorem zc164 : zcells Tryz.prog 164 = some [(.str ByteArray.empty, false), (.lst [], true), (.lst [], true)] := by kernel_rfl
@[simp] theorem zt164 : zeroT Tryz.prog 164 = true := by kernel_rfl
@[simp] theorem fa164_0 (x : AVal) : afield Tryz.prog 164 x 0 = ashift 0 x := by kernel_rfl
@[simp] theorem fv164_0 (cs : List AVal) : afieldv Tryz.prog 164 (.agg cs) 0 = cs[0]? := by kernel_rfl
@[simp] theorem fa164_1 (x : AVal) : afield Tryz.prog 164 x 1 = ashift 1 x := by kernel_rfl
@[simp] theorem fv164_1 (cs : List AVal) : afieldv Tryz.prog 164 (.agg cs) 1 = cs[1]? := by kernel_rfl
@[simp] theorem fa164_2 (x : AVal) : afield Tryz.prog 164 x 2 = ashift 2 x := by kernel_rfl
@[simp] theorem fv164_2 (cs : List AVal) : afieldv Tryz.prog 164 (.agg cs) 2 = cs[2]? := by kernel_rfl
@[simp] theorem bd164 (nl : Bool) (ps : List (Nat × AVal)) : abuild Tryz.prog nl 164 ps = afillL [(0, 1), (1, 1), (2, 1)] (if nl then [.str ByteArray.empty, .nils, .nils] else [.str ByteArray.empty, .lst [], .lst []]) ps := by cases nl <;> kernel_rfl
@[simp] theorem sz165 : sizeT Tryz.prog 165 = 1 := by kernel_rfl
@[simp] theorem ag165 : isAggT Tryz.prog 165 = some false := by kernel_rfl
@[simp] theorem zc165 : zcells Tryz.prog 165 = some [(.nilf, false)] := by kernel_rfl
@[simp] theorem zt165 : zeroT Tryz.prog 165 = true := by kernel_rfl
@[simp] theorem sz166 : sizeT Tryz.prog 166 = 1 := by kernel_rfl
@[simp] theorem ag166 : isAggT Tryz.prog 166 = some false := by kernel_rfl
@[simp] theorem zc166 : zcells Tryz.prog 166 = some [(.nilp, false)] := by kernel_rfl
@[simp] theorem zt166 : zeroT Tryz.prog 166 = true := by kernel_rfl
@[simp] theorem sz167 : sizeT Tryz.prog 167 = 1 := by kernel_rfl
@[simp] theorem ag167 : isAggT Tryz.prog 167 = some false := by kernel_rfl
@[simp] theorem zc167 : zcells Tryz.prog 167 = some [(.nilf, false)] := by kernel_rfl
@[simp] theorem zt167 : zeroT Tryz.prog 167 = true := by kernel_rfl
@[simp] theorem sz168 : sizeT Tryz.prog 168 = 1 := by kernel_rfl
@[simp] theorem ag168 : isAggT Tryz.prog 168 = some false := by kernel_rfl
@[simp] theorem zc168 : zcells Tryz.prog 168 = some [(.nilf, false)] := by kernel_rfl
@[simp] theorem zt168 : zeroT Tryz.prog 168 = true := by kernel_rfl
@[simp] theorem sz169 : sizeT Tryz.prog 169 = 1 := by kernel_rfl
@[simp] theorem ag169 : isAggT Tryz.prog 169 = some false := by kernel_rfl
@[simp] theorem zc169 : zcells Tryz.prog 169 = some [(.nilp, false)] := by kernel_rfl
@[simp] theorem zt169 : zeroT Tryz.prog 169 = true := by kernel_rfl
@[simp] theorem sz170 : sizeT Tryz.prog 170 = 1 := by kernel_rfl
@[simp] theorem ag170 : isAggT Tryz.prog 170 = some false := by kernel_rfl
@[simp] theorem zc170 : zcells Tryz.prog 170 = some [(.nilf, false)] := by kernel_rfl
@[simp] theorem zt170 : zeroT Tryz.prog 170 = true := by kernel_rfl
@[simp] theorem sz171 : sizeT Tryz.prog 171 = 1 := by kernel_rfl
@[simp] theorem ag171 : isAggT Tryz.prog 171 = some false := by kernel_rfl
@[simp] theorem zc171 : zcells Tryz.prog 171 = some [(.nilf, false)] := by kernel_rfl
@[simp] theorem zt171 : zeroT Tryz.prog 171 = true := by kernel_rfl
@[simp] theorem sz173 : sizeT Tryz.prog 173 = 1 := by kernel_rfl
@[simp] theorem ag173 : isAggT Tryz.prog 173 = some false := by kernel_rfl
@[simp] theorem zc173 : zcells Tryz.prog 173 = some [(.nilf, false)] := by kernel_rfl
@[simp] theorem zt173 : zeroT Tryz.prog 173 = true := by kernel_rfl
@[simp] theorem sz174 : sizeT Tryz.prog 174 = 1 := by kernel_rfl
@[simp] theorem ag174 : isAggT Tryz.prog 174 = some false := by kernel_rfl
@[simp] theorem zc174 : zcells Tryz.prog 174 = some [(.nilf, false)] := by kernel_rfl
@[simp] theorem zt174 : zeroT Tryz.prog 174 = true := by kernel_rfl
@[simp] theorem sz175 : sizeT Tryz.prog 175 = 13 := by kernel_rfl
@[simp] theorem ag175 : isAggT Tryz.prog 175 = some true := by kernel_rfl
@[simp] theorem zc175 : zcells Tryz.prog 175 = some [(.int .i64 0, false), (.str ByteArray.empty, false), (.str ByteArray.empty, false), (.str ByteArray.empty, false), (.str ByteArray.empty, false), (.int .i64 0, false), (.int .i64 0, false), (.str ByteArray.empty, false), (.lst [], true), (.lst [], true), (.lst [], true), (.str ByteArray.empty, false), (.lst [], true)] := by kernel_rfl
@[simp] theorem zt175 : zeroT Tryz.prog 175 = true := by kernel_rfl
@[simp] theorem fa175_0 (x : AVal) : afield Tryz.prog 175 x 0 = ashift 0 x := by kernel_rfl
@[simp] theorem fv175_0 (cs : List AVal) : afieldv Tryz.prog 175 (.agg cs) 0 = cs[0]? := by kernel_rfl
@[simp] theorem fa175_1 (x : AVal) : afield Tryz.prog 175 x 1 = ashift 1 x := by kernel_rfl
@[simp] theorem fv175_1 (cs : List AVal) : afieldv Tryz.prog 175 (.agg cs) 1 = cs[1]? := by kernel_rfl
@[simp] theorem fa175_2 (x : AVal) : afield Tryz.prog 175 x 2 = ashift 2 x := by kernel_rfl
@[simp] theorem fv175_2 (cs : List AVal) : afieldv Tryz.prog 175 (.agg cs) 2 = cs[2]? := by kernel_rfl
@[simp] theorem fa175_3 (x : AVal) : afield Tryz.prog 175 x 3 = ashift 3 x := by kernel_rfl
@[simp] theorem fv175_3 (cs : List AVal) : afieldv Tryz.prog 175 (.agg cs) 3 = cs[3]? := by kernel_rfl
@[simp] theorem fa175_4 (x : AVal) : afield Tryz.prog 175 x 4 = ashift 4 x := by kernel_rfl
@[simp] theorem fv175_4 (cs : List AVal) : afieldv Tryz.prog 175 (.agg cs) 4 = cs[4]? := by kernel_rfl
@[simp] theorem fa175_5 (x : AVal) : afield Tryz.prog 175 x 5 = ashift 5 x := by kernel_rfl
@[simp] theorem fv175_5 (cs : List AVal) : afieldv Tryz.prog 175 (.agg cs) 5 = if 5 + 4 ≤ cs.length then some (.agg ((cs.drop 5).take 4)) else none := by kernel_rfl
@[simp] theorem fa175_6 (x : AVal) : afield Tryz.prog 175 x 6 = ashift 9 x := by kernel_rfl
@[simp] theorem fv175_6 (cs : List AVal) : afieldv Tryz.prog 175 (.agg cs) 6 = cs[9]? := by kernel_rfl
@[simp] theorem fa175_7 (x : AVal) : afield Tryz.prog 175 x 7 = ashift 10 x := by kernel_rfl
@[simp] theorem fv175_7 (cs : List AVal) : afieldv Tryz.prog 175 (.agg cs) 7 = cs[10]? := by kernel_rfl
@[simp] theorem fa175_8 (x : AVal) : afield Tryz.prog 175 x 8 = ashift 11 x := by kernel_rfl
@[simp] theorem fv175_8 (cs : List AVal) : afieldv Tryz.prog 175 (.agg cs) 8 = cs[11]? := by kernel_rfl
@[simp] theorem fa175_9 (x : AVal) : afield Tryz.prog 175 x 9 = ashift 12 x := by kernel_rfl
@[simp] theorem fv175_9 (cs : List AVal) : afieldv Tryz.prog 175 (.agg cs) 9 = cs[12]? := by kernel_rfl
@[simp] theorem bd175 (nl : Bool) (ps : List (Nat × AVal)) : abuild Tryz.prog nl 175 ps = afillL [(0, 1), (1, 1), (2, 1), (3, 1), (4, 1), (5, 4), (9, 1), (10, 1), (11, 1), (12, 1)] (if nl then [.int .i64 0, .str ByteArray.empty, .str ByteArray.empty, .str ByteArray.empty, .str ByteArray.empty, .int .i64 0, .int .i64 0, .str ByteArray.empty, .nils, .nils, .nils, .str ByteArray.empty, .nils] else [.int .i64 0, .str ByteArray.empty, .str ByteArray.empty, .str ByteArray.empty, .str ByteArray.empty, .int .i64 0, .int .i64 0, .str ByteArray.empty, .lst [], .lst [], .lst [], .str ByteArray.empty, .lst []]) ps := by cases nl <;> kernel_rfl
@[simp] theorem sz176 : sizeT Tryz.prog 176 = 13 := by kernel_rfl
@[simp] theorem ag176 : isAggT Tryz.prog 176 = some true := by kernel_rfl
@[simp] theorem zc176 : zcells Tryz.prog 176 = some [(.int .i64 0, false), (.str ByteArray.empty, false), (.str ByteArray.empty, false), (.str ByteArray.empty, false), (.str ByteArray.empty, false), (.int .i64 0, false), (.int .i64 0, false), (.str ByteArray.empty, false), (.lst [], true), (.lst [], true), (.lst [], true), (.str ByteArray.empty, false), (.lst [], true)] := by kernel_rfl
@[simp] theorem zt176 : zeroT Tryz.prog 176 = true := by kernel_rfl
@[simp] theorem fa176_0 (x : AVal) : afield Tryz.prog 176 x 0 = ashift 0 x := by kernel_rfl
@[simp] theorem fv176_0 (cs : List AVal) : afieldv Tryz.prog 176 (.agg cs) 0 = cs[0]? := by kernel_rfl
@[simp] theorem fa176_1 (x : AVal) : afield Tryz.prog 176 x 1 = ashift 1 x := by kernel_rfl
@[simp] theorem fv176_1 (cs : List AVal) : afieldv Tryz.prog 176 (.agg cs) 1 = cs[1]? := by kernel_rfl
@[simp] theorem fa176_2 (x : AVal) : afield Tryz.prog 176 x 2 = ashift 2 x := by kernel_rfl
@[simp] theorem fv176_2 (cs : List AVal) : afieldv Tryz.prog 176 (.agg cs) 2 = cs[2]? := by kernel_rfl
@[simp] theorem fa176_3 (x : AVal) : afield Tryz.prog 176 x 3 = ashift 3 x := by kernel_rfl
@[simp] theorem fv176_3 (cs : List AVal) : afieldv Tryz.prog 176 (.agg cs) 3 = cs[3]? := by kernel_rfl
@[simp] theorem fa176_4 (x : AVal) : afield Tryz.prog 176 x 4 = ashift 4 x := by kernel_rfl
@[simp] theorem fv176_4 (cs : List AVal) : afieldv Tryz.prog 176 (.agg cs) 4 = cs[4]? := by kernel_rfl
@[simp] theorem fa176_5 (x : AVal) : afield Tryz.prog 176 x 5 = ashift 5 x := by kernel_rfl
@[simp] theorem fv176_5 (cs : List AVal) : afieldv Tryz.prog 176 (.agg cs) 5 = if 5 + 4 ≤ cs.length then some (.agg ((cs.drop 5).take 4)) else none := by kernel_rfl
@[simp] theorem fa176_6 (x : AVal) : afield Tryz.prog 176 x 6 = ashift 9 x := by kernel_rfl
@[simp] theorem fv176_6 (cs : List AVal) : afieldv Tryz.prog 176 (.agg cs) 6 = cs[9]? := by kernel_rfl
@[simp] theorem fa176_7 (x : AVal) : afield Tryz.prog 176 x 7 = ashift 10 x := by kernel_rfl
@[simp] theorem fv176_7 (cs : List AVal) : afieldv Tryz.prog 176 (.agg cs) 7 = cs[10]? := by kernel_rfl
@[simp] theorem fa176_8 (x : AVal) : afield Tryz.prog 176 x 8 = ashift 11 x := by kernel_rfl
@[simp] theorem fv176_8 (cs : List AVal) : afieldv Tryz.prog 176 (.agg cs) 8 = cs[11]? := by kernel_rfl
@[simp] theorem fa176_9 (x : AVal) : afield Tryz.prog 176 x 9 = ashift 12 x := by kernel_rfl
@[simp] theorem fv176_9 (cs : List AVal) : afieldv Tryz.prog 176 (.agg cs) 9 = cs[12]? := by kernel_rfl
@[simp] theorem bd176 (nl : Bool) (ps : List (Nat × AVal)) : abuild Tryz.prog nl 176 ps = afillL [(0, 1), (1, 1), (2, 1), (3, 1), (4, 1), (5, 4), (9, 1), (10, 1), (11, 1), (12, 1)] (if nl then [.int .i64 0, .str ByteArray.empty, .str ByteArray.empty, .str ByteArray.empty, .str ByteArray.empty, .int .i64 0, .int .i64 0, .str ByteArray.empty, .nils, .nils, .nils, .str ByteArray.empty, .nils] else [.int .i64 0, .str ByteArray.empty, .str ByteArray.empty, .str ByteArray.empty, .str ByteArray.empty, .int .i64 0, .int .i64 0, .str ByteArray.empty, .lst [], .lst [], .lst [], .str ByteArray.empty, .lst []]) ps := by cases nl <;> kernel_rfl
@[simp] theorem sz177 : sizeT Tryz.prog 177 = 1 := by kernel_rfl
@[simp] theorem ag177 : isAggT Tryz.prog 177 = some false := by kernel_rfl
@[simp] theorem zc177 : zcells Tryz.prog 177 = some [(.nilf, false)] := by kernel_rfl
@[simp] theorem zt177 : zeroT Tryz.prog 177 = true := by kernel_rfl
@[simp] theorem sz178 : sizeT Tryz.prog 178 = 1 := by kernel_rfl
@[simp] theorem ag178 : isAggT Tryz.prog 178 = some false := by kernel_rfl
@[simp] theorem zc178 : zcells Tryz.prog 178 = some [(.nilm, false)] := by kernel_rfl
@[simp] theorem zt178 : zeroT Tryz.prog 178 = true := by kernel_rfl
@[simp] theorem un178 : Tryz.prog.underlying 178 = some (.map 9 4) := by kernel_rfl
@[simp] theorem sz179 : sizeT Tryz.prog 179 = 1 := by kernel_rfl
@[simp] theorem ag179 : isAggT Tryz.prog 179 = some false := by kernel_rfl
@[simp] theorem zc179 : zcells Tryz.prog 179 = some [(.nilf, false)] := by kernel_rfl
@[simp] theorem zt179 : zeroT Tryz.prog 179 = true := by kernel_rfl
@[simp] theorem sz180 : sizeT Tryz.prog 180 = 1 := by kernel_rfl
@[simp] theorem ag180 : isAggT Tryz.prog 180 = some false := by kernel_rfl
@[simp] theorem zc180 : zcells Tryz.prog 180 = some [(.nilf, false)] := by kernel_rfl
@[simp] theorem zt180 : zeroT Tryz.prog 180 = true := by kernel_rfl
@[simp] theorem sz181 : sizeT Tryz.prog 181 = 1 := by kernel_rfl
@[simp] theorem ag181 : isAggT Tryz.prog 181 = some false := by kernel_rfl
@[simp] theorem zc181 : zcells Tryz.prog 181 = some [(.nilf, false)] := by kernel_rfl
@[simp] theorem zt181 : zeroT Tryz.prog 181 = true := by kernel_rfl
@[simp] theorem sz182 : sizeT Tryz.prog 182 = 1 := by kernel_rfl
@[simp] theorem ag182 : isAggT Tryz.prog 182 = some false := by kernel_rfl
@[simp] theorem zc182 : zcells Tryz.prog 182 = some [(.lst [], true)] := by kernel_rfl
@[simp] theorem zt182 : zeroT Tryz.prog 182 = true := by kernel_rfl
@[simp] theorem un182 : Tryz.prog.underlying 182 = some (.slice 184) := by kernel_rfl
@[simp] theorem st182 : slT Tryz.prog 182 = true := by kernel_rfl
@[simp] theorem ai182 : apInfo Tryz.prog 182 = some (184, 24, 2, true) := by kernel_rfl
@[simp] theorem sz183 : sizeT Tryz.prog 183 = 2 := by kernel_rfl
@[simp] theorem ag183 : isAggT Tryz.prog 183 = some true := by kernel_rfl
@[simp] theorem zc183 : zcells Tryz.prog 183 = some [(.str ByteArray.empty, false), (.int .i64 0, false)] := by kernel_rfl
@[simp] theorem zt183 : zeroT Tryz.prog 183 = true := by kernel_rfl
@[simp] theorem fa183_0 (x : AVal) : afield Tryz.prog 183 x 0 = ashift 0 x := by kernel_rfl
@[simp] theorem fv183_0 (cs : List AVal) : afieldv Tryz.prog 183 (.agg cs) 0 = cs[0]? := by kernel_rfl
@[simp] theorem fa183_1 (x : AVal) : afield Tryz.prog 183 x 1 = ashift 1 x := by kernel_rfl
@[simp] theorem fv183_1 (cs : List AVal) : afieldv Tryz.prog 183 (.agg cs) 1 = cs[1]? := by kernel_rfl
@[simp] theorem bd183 (nl : Bool) (ps : List (Nat × AVal)) : abuild Tryz.prog nl 183 ps = afillL [(0, 1), (1, 1)] (if nl then [.str ByteArray.empty, .int .i64 0] else [.str ByteArray.empty, .int .i64 0]) ps := by cases nl <;> kernel_rfl
@[simp] theorem sz184 : sizeT Tryz.prog 184 = 2 := by kernel_rfl
@[simp] theorem ag184 : isAggT Tryz.prog 184 = some true := by kernel_rfl
@[simp] theorem zc184 : zcells Tryz.prog 184 = some [(.str ByteArray.empty, false), (.int .i64 0, false)] := by kernel_rfl
@[simp] theorem zt184 : zeroT Tryz.prog 184 = true := by kernel_rfl
@[simp] theorem fa184_0 (x : AVal) : afield Tryz.prog 184 x 0 = ashift 0 x := by kernel_rfl
@[simp] theorem fv184_0 (cs : List AVal) : afieldv Tryz.prog 184 (.agg cs) 0 = cs[0]? := by kernel_rfl
@[simp] theorem fa184_1 (x : AVal) : afield Tryz.prog 184 x 1 = ashift 1 x := by kernel_rfl
@[simp] theorem fv184_1 (cs : List AVal) : afieldv Tryz.prog 184 (.agg cs) 1 = cs[1]? := by kernel_rfl
@[simp] theorem bd184 (nl : Bool) (ps : List (Nat × AVal)) : abuild Tryz.prog nl 184 ps = afillL [(0, 1), (1, 1)] (if nl then [.str ByteArray.empty, .int .i64 0] else [.str ByteArray.empty, .int .i64 0]) ps := by cases nl <;> kernel_rfl
@[simp] theorem sz185 : sizeT Tryz.prog 185 = 1 := by kernel_rfl
@[simp] theorem ag185 : isAggT Tryz.prog 185 = some false := by kernel_rfl
@[simp] theorem zc185 : zcells Tryz.prog 185 = some [(.nilf, false)] := by kernel_rfl
@[simp] theorem zt185 : zeroT Tryz.prog 185 = true := by kernel_rfl
@[simp] theorem sz186 : sizeT Tryz.prog 186 = 1 := by kernel_rfl
@[simp] theorem ag186 : isAggT Tryz.prog 186 = some false := by kernel_rfl
@[simp] theorem zc186 : zcells Tryz.prog 186 = some [(.nilf, false)] := by kernel_rfl
@[simp] theorem zt186 : zeroT Tryz.prog 186 = true := by kernel_rfl
@[simp] theorem sz187 : sizeT Tryz.prog 187 = 1 := by kernel_rfl
@[simp] theorem ag187 : isAggT Tryz.prog 187 = some false := by kernel_rfl
@[simp] theorem zc187 : zcells Tryz.prog 187 = some [(.nilp, false)] := by kernel_rfl
@[simp] theorem zt187 : zeroT Tryz.prog 187 = true := by kernel_rfl
@[simp] theorem sz188 : sizeT Tryz.prog 188 = 2 := by kernel_rfl
@[simp] theorem ag188 : isAggT Tryz.prog 188 = some true := by kernel_rfl
@[simp] theorem zc188 : zcells Tryz.prog 188 = some [(.int .i64 0, false), (.int .i64 0, false)] := by kernel_rfl
@[simp] theorem zt188 : zeroT Tryz.prog 188 = true := by kernel_rfl
@[simp] theorem fa188_0 (x : AVal) : afield Tryz.prog 188 x 0 = ashift 0 x := by kernel_rfl
@[simp] theorem fv188_0 (cs : List AVal) : afieldv Tryz.prog 188 (.agg cs) 0 = cs[0]? := by kernel_rfl
@[simp] theorem fa188_1 (x : AVal) : afield Tryz.prog 188 x 1 = ashift 1 x := by kernel_rfl
@[simp] theorem fv188_1 (cs : List AVal) : afieldv Tryz.prog 188 (.agg cs) 1 = cs[1]? := by kernel_rfl
@[simp] theorem bd188 (nl : Bool) (ps : List (Nat × AVal)) : abuild Tryz.prog nl 188 ps = afillL [(0, 1), (1, 1)] (if nl then [.int .i64 0, .int .i64 0] else [.int .i64 0, .int .i64 0]) ps := by cases nl <;> kernel_rfl
@[simp] theorem sz189 : sizeT Tryz.prog 189 = 2 := by kernel_rfl
@[simp] theorem ag189 : isAggT Tryz.prog 189 = some true := by kernel_rfl
@[simp] theorem zc189 : zcells Tryz.prog 189 = some [(.int .i64 0, false), (.int .i64 0, false)] := by kernel_rfl
@[simp] theorem zt189 : zeroT Tryz.prog 189 = true := by kernel_rfl
@[simp] theorem fa189_0 (x : AVal) : afield Tryz.prog 189 x 0 = ashift 0 x := by kernel_rfl
@[simp] theorem fv189_0 (cs : List AVal) : afieldv Tryz.prog 189 (.agg cs) 0 = cs[0]? := by kernel_rfl
@[simp] theorem fa189_1 (x : AVal) : afield Tryz.prog 189 x 1 = ashift 1 x := by kernel_rfl
@[simp] theorem fv189_1 (cs : List AVal) : afieldv Tryz.prog 189 (.agg cs) 1 = cs[1]? := by kernel_rfl
@[simp] theorem bd189 (nl : Bool) (ps : List (Nat × AVal)) : abuild Tryz.prog nl 189 ps = afillL [(0, 1), (1, 1)] (if nl then [.int .i64 0, .int .i64 0] else [.int .i64 0, .int .i64 0]) ps := by cases nl <;> kernel_rfl
@[simp] theorem sz190 : sizeT Tryz.prog 190 = 1 := by kernel_rfl
@[simp] theorem ag190 : isAggT Tryz.prog 190 = some false := by kernel_rfl
@[simp] theorem zc190 : zcells Tryz.prog 190 = some [(.nilf, false)] := by kernel_rfl
@[simp] theorem zt190 : zeroT Tryz.prog 190 = true := by kernel_rfl
@[simp] theorem sz191 : sizeT Tryz.prog 191 = 1 := by kernel_rfl
@[simp] theorem ag191 : isAggT Tryz.prog 191 = some false := by kernel_rfl
@[simp] theorem zc191 : zcells Tryz.prog 191 = some [(.nilf, false)] := by kernel_rfl
@[simp] theorem zt191 : zeroT Tryz.prog 191 = true := by kernel_rfl
@[simp] theorem sz192 : sizeT Tryz.prog 192 = 1 := by kernel_rfl
@[simp] theorem ag192 : isAggT Tryz.prog 192 = some false := by kernel_rfl
@[simp] theorem zc192 : zcells Tryz.prog 192 = some [(.nilf, false)] := by kernel_rfl
@[simp] theorem zt192 : zeroT Tryz.prog 192 = true := by kernel_rfl
@[simp] theorem sz193 : sizeT Tryz.prog 193 = 1 := by kernel_rfl
@[simp] theorem ag193 : isAggT Tryz.prog 193 = some false := by kernel_rfl
@[simp] theorem zc193 : zcells Tryz.prog 193 = some [(.nilf, false)] := by kernel_rfl
@[simp] theorem zt193 : zeroT Tryz.prog 193 = true := by kernel_rfl
@[simp] theorem sz197 : sizeT Tryz.prog 197 = 1 := by kernel_rfl
@[simp] theorem ag197 : isAggT Tryz.prog 197 = some false := by kernel_rfl
@[simp] theorem zc197 : zcells Tryz.prog 197 = some [(.nilf, false)] := by kernel_rfl
@[simp] theorem zt197 : zeroT Tryz.prog 197 = true := by kernel_rfl
@[simp] theorem sz198 : sizeT Tryz.prog 198 = 1 := by kernel_rfl
@[simp] theorem ag198 : isAggT Tryz.prog 198 = some false := by kernel_rfl
@[simp] theorem zc198 : zcells Tryz.prog 198 = some [(.nilf, false)] := by kernel_rfl
@[simp] theorem zt198 : zeroT Tryz.prog 198 = true := by kernel_rfl
@[simp] theorem sz199 : sizeT Tryz.prog 199 = 1 := by kernel_rfl
@[simp] theorem ag199 : isAggT Tryz.prog 199 = some false := by kernel_rfl
@[simp] theorem zc199 : zcells Tryz.prog 199 = some [(.nilf, false)] := by kernel_rfl
@[simp] theorem zt199 : zeroT Tryz.prog 199 = true := by kernel_rfl
@[simp] theorem sz200 : sizeT Tryz.prog 200 = 1 := by kernel_rfl
@[simp] theorem ag200 : isAggT Tryz.prog 200 = some false := by kernel_rfl
@[simp] theorem zc200 : zcells Tryz.prog 200 = some [(.nilf, false)] := by kernel_rfl
@[simp] theorem zt200 : zeroT Tryz.prog 200 = true := by kernel_rfl
@[simp] theorem sz201 : sizeT Tryz.prog 201 = 1 := by kernel_rfl
@[simp] theorem ag201 : isAggT Tryz.prog 201 = some false := by kernel_rfl
@[simp] theorem zc201 : zcells Tryz.prog 201 = some [(.nilf, false)] := by kernel_rfl
@[simp] theorem zt201 : zeroT Tryz.prog 201 = true := by kernel_rfl
@[simp] theorem sz202 : sizeT Tryz.prog 202 = 1 := by kernel_rfl
@[simp] theorem ag202 : isAggT Tryz.prog 202 = some false := by kernel_rfl
@[simp] theorem zc202 : zcells Tryz.prog 202 = some [(.nilf, false)] := by kernel_rfl
@[simp] theorem zt202 : zeroT Tryz.prog 202 = true := by kernel_rfl
@[simp] theorem sz203 : sizeT Tryz.prog 203 = 1 := by kernel_rfl
@[simp] theorem ag203 : isAggT Tryz.prog 203 = some false := by kernel_rfl
@[simp] theorem zc203 : zcells Tryz.prog 203 = some [(.nilf, false)] := by kernel_rfl
@[simp] theorem zt203 : zeroT Tryz.prog 203 = true := by kernel_rfl
@[simp] theorem sz204 : sizeT Tryz.prog 204 = 1 := by kernel_rfl
@[simp] theorem ag204 : isAggT Tryz.prog 204 = some false := by kernel_rfl
@[simp] theorem zc204 : zcells Tryz.prog 204 = some [(.int .u64 0, false)] := by kernel_rfl
@[simp] theorem zt204 : zeroT Tryz.prog 204 = true := by kernel_rfl
@[simp] theorem sz206 : sizeT Tryz.prog 206 = 1 := by kernel_rfl
@[simp] theorem ag206 : isAggT Tryz.prog 206 = some false := by kernel_rfl
@[simp] theorem zc206 : zcells Tryz.prog 206 = some [(.nilf, false)] := by kernel_rfl
@[simp] theorem zt206 : zeroT Tryz.prog 206 = true := by kernel_rfl
@[simp] theorem sz207 : sizeT Tryz.prog 207 = 1 := by kernel_rfl
@[simp] theorem ag207 : isAggT Tryz.prog 207 = some false := by kernel_rfl
@[simp] theorem zc207 : zcells Tryz.prog 207 = some [(.nilf, false)] := by kernel_rfl
@[simp] theorem zt207 : zeroT Tryz.prog 207 = true := by kernel_rfl
@[simp] theorem sz208 : sizeT Tryz.prog 208 = 1 := by kernel_rfl
@[simp] theorem ag208 : isAggT Tryz.prog 208 = some false := by kernel_rfl
@[simp] theorem zc208 : zcells Tryz.prog 208 = some [(.nilf, false)] := by kernel_rfl
@[simp] theorem zt208 : zeroT Tryz.prog 208 = true := by kernel_rfl
@[simp] theorem sz209 : sizeT Tryz.prog 209 = 1 := by kernel_rfl
@[simp] theorem ag209 : isAggT Tryz.prog 209 = some false := by kernel_rfl
@[simp] theorem zc209 : zcells Tryz.prog 209 = some [(.nilf, false)] := by kernel_rfl
@[simp] theorem zt209 : zeroT Tryz.prog 209 = true := by kernel_rfl
@[simp] theorem sz210 : sizeT Tryz.prog 210 = 1 := by kernel_rfl
@[simp] theorem ag210 : isAggT Tryz.prog 210 = some false := by kernel_rfl
@[simp] theorem zc210 : zcells Tryz.prog 210 = some [(.nilf, false)] := by kernel_rfl
@[simp] theorem zt210 : zeroT Tryz.prog 210 = true := by kernel_rfl
@[simp] theorem sz211 : sizeT Tryz.prog 211 = 1 := by kernel_rfl
@[simp] theorem ag211 : isAggT Tryz.prog 211 = some false := by kernel_rfl
@[simp] theorem zc211 : zcells Tryz.prog 211 = some [(.nilf, false)] := by kernel_rfl
@[simp] theorem zt211 : zeroT Tryz.prog 211 = true := by kernel_rfl
@[simp] theorem sz212 : sizeT Tryz.prog 212 = 1 := by kernel_rfl
@[simp] theorem ag212 : isAggT Tryz.prog 212 = some false := by kernel_rfl
@[simp] theorem zc212 : zcells Tryz.prog 212 = some [(.nilf, false)] := by kernel_rfl
@[simp] theorem zt212 : zeroT Tryz.prog 212 = true := by kernel_rfl
@[simp] theorem sz213 : sizeT Tryz.prog 213 = 1 := by kernel_rfl
@[simp] theorem ag213 : isAggT Tryz.prog 213 = some false := by kernel_rfl
@[simp] theorem zc213 : zcells Tryz.prog 213 = some [(.nilf, false)] := by kernel_rfl
@[simp] theorem zt213 : zeroT Tryz.prog 213 = true := by kernel_rfl
@[simp] theorem sz214 : sizeT Tryz.prog 214 = 1 := by kernel_rfl
@[simp] theorem ag214 : isAggT Tryz.prog 214 = some false := by kernel_rfl
@[simp] theorem zc214 : zcells Tryz.prog 214 = some [(.nilf, false)] := by kernel_rfl
@[simp] theorem zt214 : zeroT Tryz.prog 214 = true := by kernel_rfl
@[simp] theorem sz215 : sizeT Tryz.prog 215 = 1 := by kernel_rfl
@[simp] theorem ag215 : isAggT Tryz.prog 215 = some false := by kernel_rfl
@[simp] theorem zc215 : zcells Tryz.prog 215 = some [(.nilf, false)] := by kernel_rfl
@[simp] theorem zt215 : zeroT Tryz.prog 215 = true := by kernel_rfl
@[simp] theorem sz216 : sizeT Tryz.prog 216 = 1 := by kernel_rfl
@[simp] theorem ag216 : isAggT Tryz.prog 216 = some false := by kernel_rfl
@[simp] theorem zc216 : zcells Tryz.prog 216 = some [(.nilf, false)] := by kernel_rfl
@[simp] theorem zt216 : zeroT Tryz.prog 216 = true := by kernel_rfl
@[simp] theorem sz217 : sizeT Tryz.prog 217 = 1 := by kernel_rfl
@[simp] theorem ag217 : isAggT Tryz.prog 217 = some false := by kernel_rfl
@[simp] theorem zc217 : zcells Tryz.prog 217 = some [(.nilf, false)] := by kernel_rfl
@[simp] theorem zt217 : zeroT Tryz.prog 217 = true := by kernel_rfl
@[simp] theorem sz218 : sizeT Tryz.prog 218 = 1 := by kernel_rfl
@[simp] theorem ag218 : isAggT Tryz.prog 218 = some false := by kernel_rfl
@[simp] theorem zc218 : zcells Tryz.prog 218 = some [(.nilf, false)] := by kernel_rfl
@[simp] theorem zt218 : zeroT Tryz.prog 218 = true := by kernel_rfl
@[simp] theorem sz219 : sizeT Tryz.prog 219 = 1 := by kernel_rfl
@[simp] theorem ag219 : isAggT Tryz.prog 219 = some false := by kernel_rfl
@[simp] theorem zc219 : zcells Tryz.prog 219 = some [(.nilf, false)] := by kernel_rfl
@[simp] theorem zt219 : zeroT Tryz.prog 219 = true := by kernel_rfl
@[simp] theorem sz220 : sizeT Tryz.prog 220 = 1 := by kernel_rfl
@[simp] theorem ag220 : isAggT Tryz.prog 220 = some false := by kernel_rfl
@[simp] theorem zc220 : zcells Tryz.prog 220 = some [(.lst [], true)] := by kernel_rfl
@[simp] theorem zt220 : zeroT Tryz.prog 220 = true := by kernel_rfl
@[simp] theorem un220 : Tryz.prog.underlying 220 = some (.slice 219) := by kernel_rfl
@[simp] theorem st220 : slT Tryz.prog 220 = true := by kernel_rfl
@[simp] theorem ai220 : apInfo Tryz.prog 220 = some (219, 8, 1, false) := by kernel_rfl
@[simp] theorem sz221 : sizeT Tryz.prog 221 = 1 := by kernel_rfl
@[simp] theorem ag221 : isAggT Tryz.prog 221 = some false := by kernel_rfl
@[simp] theorem zc221 : zcells Tryz.prog 221 = some [(.nilf, false)] := by kernel_rfl
@[simp] theorem zt221 : zeroT Tryz.prog 221 = true := by kernel_rfl
@[simp] theorem sz222 : sizeT Tryz.prog 222 = 1 := by kernel_rfl
@[simp] theorem ag222 : isAggT Tryz.prog 222 = some false := by kernel_rfl
@[simp] theorem zc222 : zcells Tryz.prog 222 = some [(.nilf, false)] := by kernel_rfl
@[simp] theorem zt222 : zeroT Tryz.prog 222 = true := by kernel_rfl
@[simp] theorem sz223 : sizeT Tryz.prog 223 = 1 := by kernel_rfl
@[simp] theorem ag223 : isAggT Tryz.prog 223 = some false := by kernel_rfl
@[simp] theorem zc223 : zcells Tryz.prog 223 = some [(.nilf, false)] := by kernel_rfl
@[simp] theorem zt223 : zeroT Tryz.prog 223 = true := by kernel_rfl
@[simp] theorem sz224 : sizeT Tryz.prog 224 = 1 := by kernel_rfl
@[simp] theorem ag224 : isAggT Tryz.prog 224 = some false := by kernel_rfl
@[simp] theorem zc224 : zcells Tryz.prog 224 = some [(.nilf, false)] := by kernel_rfl
@[simp] theorem zt224 : zeroT Tryz.prog 224 = true := by kernel_rfl
@[simp] theorem sz225 : sizeT Tryz.prog 225 = 1 := by kernel_rfl
@[simp] theorem ag225 : isAggT Tryz.prog 225 = some false := by kernel_rfl
@[simp] theorem zc225 : zcells Tryz.prog 225 = some [(.nilf, false)] := by kernel_rfl
@[simp] theorem zt225 : zeroT Tryz.prog 225 = true := by kernel_rfl
@[simp] theorem sz226 : sizeT Tryz.prog 226 = 4 := by kernel_rfl
@[simp] theorem ag226 : isAggT Tryz.prog 226 = some true := by kernel_rfl
@[simp] theorem zc226 : zcells Tryz.prog 226 = some [(.str ByteArray.empty, false), (.int .i64 0, false), (.int .i64 0, false), (.int .i64 0, false)] := by kernel_rfl
@[simp] theorem zt226 : zeroT Tryz.prog 226 = true := by kernel_rfl
@[simp] theorem fa226_0 (x : AVal) : afield Tryz.prog 226 x 0 = ashift 0 x := by kernel_rfl
@[simp] theorem fv226_0 (cs : List AVal) : afieldv Tryz.prog 226 (.agg cs) 0 = cs[0]? := by kernel_rfl
@[simp] theorem fa226_1 (x : AVal) : afield Tryz.prog 226 x 1 = ashift 1 x := by kernel_rfl
@[simp] theorem fv226_1 (cs : List AVal) : afieldv Tryz.prog 226 (.agg cs) 1 = cs[1]? := by kernel_rfl
@[simp] theorem fa226_2 (x : AVal) : afield Tryz.prog 226 x 2 = ashift 2 x := by kernel_rfl
@[simp] theorem fv226_2 (cs : List AVal) : afieldv Tryz.prog 226 (.agg cs) 2 = cs[2]? := by kernel_rfl
@[simp] theorem fa226_3 (x : AVal) : afield Tryz.prog 226 x 3 = ashift 3 x := by kernel_rfl
@[simp] theorem fv226_3 (cs : List AVal) : afieldv Tryz.prog 226 (.agg cs) 3 = cs[3]? := by kernel_rfl
@[simp] theorem bd226 (nl : Bool) (ps : List (Nat × AVal)) : abuild Tryz.prog nl 226 ps = afillL [(0, 1), (1, 1), (2, 1), (3, 1)] (if nl then [.str ByteArray.empty, .int .i64 0, .int .i64 0, .int .i64 0] else [.str ByteArray.empty, .int .i64 0, .int .i64 0, .int .i64 0]) ps := by cases nl <;> kernel_rfl
@[simp] theorem sz227 : sizeT Tryz.prog 227 = 4 := by kernel_rfl
@[simp] theorem ag227 : isAggT Tryz.prog 227 = some true := by kernel_rfl
@[simp] theorem zc227 : zcells Tryz.prog 227 = some [(.str ByteArray.empty, false), (.int .i64 0, false), (.int .i64 0, false), (.int .i64 0, false)] := by kernel_rfl
@[simp] theorem zt227 : zeroT Tryz.prog 227 = true := by kernel_rfl
@[simp] theorem fa227_0 (x : AVal) : afield Tryz.prog 227 x 0 = ashift 0 x := by kernel_rfl
@[simp] theorem fv227_0 (cs : List AVal) : afieldv Tryz.prog 227 (.agg cs) 0 = cs[0]? := by kernel_rfl
@[simp] theorem fa227_1 (x : AVal) : afield Tryz.prog 227 x 1 = ashift 1 x := by kernel_rfl
@[simp] theorem fv227_1 (cs : List AVal) : afieldv Tryz.prog 227 (.agg cs) 1 = cs[1]? := by kernel_rfl
@[simp] theorem fa227_2 (x : AVal) : afield Tryz.prog 227 x 2 = ashift 2 x := by kernel_rfl
@[simp] theorem fv227_2 (cs : List AVal) : afieldv Tryz.prog 227 (.agg cs) 2 = cs[2]? := by kernel_rfl
@[simp] theorem fa227_3 (x : AVal) : afield Tryz.prog 227 x 3 = ashift 3 x := by kernel_rfl
@[simp] theorem fv227_3 (cs : List AVal) : afieldv Tryz.prog 227 (.agg cs) 3 = cs[3]? := by kernel_rfl
@[simp] theorem bd227 (nl : Bool) (ps : List (Nat × AVal)) : abuild Tryz.prog nl 227 ps = afillL [(0, 1), (1, 1), (2, 1), (3, 1)] (if nl then [.str ByteArray.empty, .int .i64 0, .int .i64 0, .int .i64 0] else [.str ByteArray.empty, .int .i64 0, .int .i64 0, .int .i64 0]) ps := by cases nl <;> kernel_rfl
@[simp] theorem sz228 : sizeT Tryz.prog 228 = 1 := by kernel_rfl
@[simp] theorem ag228 : isAggT Tryz.prog 228 = some false := by kernel_rfl
@[simp] theorem zc228 : zcells Tryz.prog 228 = some [(.nilf, false)] := by kernel_rfl
@[simp] theorem zt228 : zeroT Tryz.prog 228 = true := by kernel_rfl
@[simp] theorem sz229 : sizeT Tryz.prog 229 = 1 := by kernel_rfl
@[simp] theorem ag229 : isAggT Tryz.prog 229 = some false := by kernel_rfl
@[simp] theorem zc229 : zcells Tryz.prog 229 = some [(.nilp, false)] := by kernel_rfl
@[simp] theorem zt229 : zeroT Tryz.prog 229 = true := by kernel_rfl
@[simp] theorem sz230 : sizeT Tryz.prog 230 = 1 := by kernel_rfl
@[simp] theorem ag230 : isAggT Tryz.prog 230 = some false := by kernel_rfl
@[simp] theorem zc230 : zcells Tryz.prog 230 = some [(.nilm, false)] := by kernel_rfl
@[simp] theorem zt230 : zeroT Tryz.prog 230 = true := by kernel_rfl
@[simp] theorem un230 : Tryz.prog.underlying 230 = some (.map 3 9) := by kernel_rfl
@[simp] theorem sz231 : sizeT Tryz.prog 231 = 1 := by kernel_rfl
@[simp] theorem ag231 : isAggT Tryz.prog 231 = some false := by kernel_rfl
@[simp] theorem zc231 : zcells Tryz.prog 231 = some [(.nilf, false)] := by kernel_rfl
@[simp] theorem zt231 : zeroT Tryz.prog 231 = true := by kernel_rfl
@[simp] theorem sz232 : sizeT Tryz.prog 232 = 3 := by kernel_rfl
@[simp] theorem ag232 : isAggT Tryz.prog 232 = some true := by kernel_rfl
@[simp] theorem zc232 : zcells Tryz.prog 232 = some [(.str ByteArray.empty, false), (.int .i64 0, false), (.int .i64 0, false)] := by kernel_rfl
@[simp] theorem zt232 : zeroT Tryz.prog 232 = true := by kernel_rfl
@[simp] theorem fa232_0 (x : AVal) : afield Tryz.prog 232 x 0 = ashift 0 x := by kernel_rfl
@[simp] theorem fv232_0 (cs : List AVal) : afieldv Tryz.prog 232 (.agg cs) 0 = cs[0]? := by kernel_rfl
@[simp] theorem fa232_1 (x : AVal) : afield Tryz.prog 232 x 1 = ashift 1 x := by kernel_rfl
@[simp] theorem fv232_1 (cs : List AVal) : afieldv Tryz.prog 232 (.agg cs) 1 = cs[1]? := by kernel_rfl
@[simp] theorem fa232_2 (x : AVal) : afield Tryz.prog 232 x 2 = ashift 2 x := by kernel_rfl
@[simp] theorem fv232_2 (cs : List AVal) : afieldv Tryz.prog 232 (.agg cs) 2 = cs[2]? := by kernel_rfl
@[simp] theorem bd232 (nl : Bool) (ps : List (Nat × AVal)) : abuild Tryz.prog nl 232 ps = afillL [(0, 1), (1, 1), (2, 1)] (if nl then [.str ByteArray.empty, .int .i64 0, .int .i64 0] else [.str ByteArray.empty, .int .i64 0, .int .i64 0]) ps := by cases nl <;> kernel_rfl
@[simp] theorem sz233 : sizeT Tryz.prog 233 = 3 := by kernel_rfl
@[simp] theorem ag233 : isAggT Tryz.prog 233 = some true := by kernel_rfl
@[simp] theorem zc233 : zcells Tryz.prog 233 = some [(.str ByteArray.empty, false), (.int .i64 0, false), (.int .i64 0, false)] := by kernel_rfl
@[simp] theorem zt233 : zeroT Tryz.prog 233 = true := by kernel_rfl
@[simp] theorem fa233_0 (x : AVal) : afield Tryz.prog 233 x 0 = ashift 0 x := by kernel_rfl
@[simp] theorem fv233_0 (cs : List AVal) : afieldv Tryz.prog 233 (.agg cs) 0 = cs[0]? := by kernel_rfl
@[simp] theorem fa233_1 (x : AVal) : afield Tryz.prog 233 x 1 = ashift 1 x := by kernel_rfl
@[simp] theorem fv233_1 (cs : List AVal) : afieldv Tryz.prog 233 (.agg cs) 1 = cs[1]? := by kernel_rfl
@[simp] theorem fa233_2 (x : AVal) : afield Tryz.prog 233 x 2 = ashift 2 x := by kernel_rfl
@[simp] theorem fv233_2 (cs : List AVal) : afieldv Tryz.prog 233 (.agg cs) 2 = cs[2]? := by kernel_rfl
@[simp] theorem bd233 (nl : Bool) (ps : List (Nat × AVal)) : abuild Tryz.prog nl 233 ps = afillL [(0, 1), (1, 1), (2, 1)] (if nl then [.str ByteArray.empty, .int .i64 0, .int .i64 0] else [.str ByteArray.empty, .int .i64 0, .int .i64 0]) ps := by cases nl <;> kernel_rfl
@[simp] theorem sz234 : sizeT Tryz.prog 234 = 3 := by kernel_rfl
@[simp] theorem ag234 : isAggT Tryz.prog 234 = some true := by kernel_rfl
@[simp] theorem zc234 : zcells Tryz.prog 234 = some [(.int .i64 0, false), (.str ByteArray.empty, false), (.int .i64 0, false)] := by kernel_rfl
@[simp] theorem zt234 : zeroT Tryz.prog 234 = true := by kernel_rfl
@[simp] theorem fa234_0 (x : AVal) : afield Tryz.prog 234 x 0 = ashift 0 x := by kernel_rfl
@[simp] theorem fv234_0 (cs : List AVal) : afieldv Tryz.prog 234 (.agg cs) 0 = cs[0]? := by kernel_rfl
@[simp] theorem fa234_1 (x : AVal) : afield Tryz.prog 234 x 1 = ashift 1 x := by kernel_rfl
@[simp] theorem fv234_1 (cs : List AVal) : afieldv Tryz.prog 234 (.agg cs) 1 = cs[1]? := by kernel_rfl
@[simp] theorem fa234_2 (x : AVal) : afield Tryz.prog 234 x 2 = ashift 2 x := by kernel_rfl
@[simp] theorem fv234_2 (cs : List AVal) : afieldv Tryz.prog 234 (.agg cs) 2 = cs[2]? := by kernel_rfl
@[simp] theorem bd234 (nl : Bool) (ps : List (Nat × AVal)) : abuild Tryz.prog nl 234 ps = afillL [(0, 1), (1, 1), (2, 1)] (if nl then [.int .i64 0, .str ByteArray.empty, .int .i64 0] else [.int .i64 0, .str ByteArray.empty, .int .i64 0]) ps := by cases nl <;> kernel_rfl
@[simp] theorem sz235 : sizeT Tryz.prog 235 = 3 := by kernel_rfl
@[simp] theorem ag235 : isAggT Tryz.prog 235 = some true := by kernel_rfl
@[simp] theorem zc235 : zcells Tryz.prog 235 = some [(.int .i64 0, false), (.str ByteArray.empty, false), (.int .i64 0, false)] := by kernel_rfl
@[simp] theorem zt235 : zeroT Tryz.prog 235 = true := by kernel_rfl
@[simp] theorem fa235_0 (x : AVal) : afield Tryz.prog 235 x 0 = ashift 0 x := by kernel_rfl
@[simp] theorem fv235_0 (cs : List AVal) : afieldv Tryz.prog 235 (.agg cs) 0 = cs[0]? := by kernel_rfl
@[simp] theorem fa235_1 (x : AVal) : afield Tryz.prog 235 x 1 = ashift 1 x := by kernel_rfl
@[simp] theorem fv235_1 (cs : List AVal) : afieldv Tryz.prog 235 (.agg cs) 1 = cs[1]? := by kernel_rfl
@[simp] theorem fa235_2 (x : AVal) : afield Tryz.prog 235 x 2 = ashift 2 x := by kernel_rfl
@[simp] theorem fv235_2 (cs : List AVal) : afieldv Tryz.prog 235 (.agg cs) 2 = cs[2]? := by kernel_rfl
@[simp] theorem bd235 (nl : Bool) (ps : List (Nat × AVal)) : abuild Tryz.prog nl 235 ps = afillL [(0, 1), (1, 1), (2, 1)] (if nl then [.int .i64 0, .str ByteArray.empty, .int .i64 0] else [.int .i64 0, .str ByteArray.empty, .int .i64 0]) ps := by cases nl <;> kernel_rfl
@[simp] theorem sz236 : sizeT Tryz.prog 236 = 9 := by kernel_rfl
@[simp] theorem ag236 : isAggT Tryz.prog 236 = some true := by kernel_rfl
@[simp] theorem zc236 : zcells Tryz.prog 236 = some [(.str ByteArray.empty, false), (.int .i64 0, false), (.int .i64 0, false), (.int .i64 0, false), (.str ByteArray.empty, false), (.int .i64 0, false), (.int .i64 0, false), (.bool false, false), (.int .i64 0, false)] := by kernel_rfl
@[simp] theorem zt236 : zeroT Tryz.prog 236 = true := by kernel_rfl
@[simp] theorem fa236_0 (x : AVal) : afield Tryz.prog 236 x 0 = ashift 0 x := by kernel_rfl
@[simp] theorem fv236_0 (cs : List AVal) : afieldv Tryz.prog 236 (.agg cs) 0 = if 0 + 3 ≤ cs.length then some (.agg ((cs.drop 0).take 3)) else none := by kernel_rfl
@[simp] theorem fa236_1 (x : AVal) : afield Tryz.prog 236 x 1 = ashift 3 x := by kernel_rfl
@[simp] theorem fv236_1 (cs : List AVal) : afieldv Tryz.prog 236 (.agg cs) 1 = if 3 + 3 ≤ cs.length then some (.agg ((cs.drop 3).take 3)) else none := by kernel_rfl
@[simp] theorem fa236_2 (x : AVal) : afield Tryz.prog 236 x 2 = ashift 6 x := by kernel_rfl
@[simp] theorem fv236_2 (cs : List AVal) : afieldv Tryz.prog 236 (.agg cs) 2 = cs[6]? := by kernel_rfl
@[simp] theorem fa236_3 (x : AVal) : afield Tryz.prog 236 x 3 = ashift 7 x := by kernel_rfl
@[simp] theorem fv236_3 (cs : List AVal) : afieldv Tryz.prog 236 (.agg cs) 3 = cs[7]? := by kernel_rfl
@[simp] theorem fa236_4 (x : AVal) : afield Tryz.prog 236 x 4 = ashift 8 x := by kernel_rfl
@[simp] theorem fv236_4 (cs : List AVal) : afieldv Tryz.prog 236 (.agg cs) 4 = cs[8]? := by kernel_rfl
@[simp] theorem bd236 (nl : Bool) (ps : List (Nat × AVal)) : abuild Tryz.prog nl 236 ps = afillL [(0, 3), (3, 3), (6, 1), (7, 1), (8, 1)] (if nl then [.str ByteArray.empty, .int .i64 0, .int .i64 0, .int .i64 0, .str ByteArray.empty, .int .i64 0, .int .i64 0, .bool false, .int .i64 0] else [.str ByteArray.empty, .int .i64 0, .int .i64 0, .int .i64 0, .str ByteArray.empty, .int .i64 0, .int .i64 0, .bool false, .int .i64 0]) ps := by cases nl <;> kernel_rfl
@[simp] theorem sz237 : sizeT Tryz.prog 237 = 9 := by kernel_rfl
@[simp] theorem ag237 : isAggT Tryz.prog 237 = some true := by kernel_rfl
@[simp] theorem zc237 : zcells Tryz.prog 237 = some [(.str ByteArray.empty, false), (.int .i64 0, false), (.int .i64 0, false), (.int .i64 0, false), (.str ByteArray.empty, false), (.int .i64 0, false), (.int .i64 0, false), (.bool false, false), (.int .i64 0, false)] := by kernel_rfl
@[simp] theorem zt237 : zeroT Tryz.prog 237 = true := by kernel_rfl
@[simp] theorem fa237_0 (x : AVal) : afield Tryz.prog 237 x 0 = ashift 0 x := by kernel_rfl
@[simp] theorem fv237_0 (cs : List AVal) : afieldv Tryz.prog 237 (.agg cs) 0 = if 0 + 3 ≤ cs.length then some (.agg ((cs.drop 0).take 3)) else none := by kernel_rfl
@[simp] theorem fa237_1 (x : AVal) : afield Tryz.prog 237 x 1 = ashift 3 x := by kernel_rfl
@[simp] theorem fv237_1 (cs : List AVal) : afieldv Tryz.prog 237 (.agg cs) 1 = if 3 + 3 ≤ cs.length then some (.agg ((cs.drop 3).take 3)) else none := by kernel_rfl
@[simp] theorem fa237_2 (x : AVal) : afield Tryz.prog 237 x 2 = ashift 6 x := by kernel_rfl
@[simp] theorem fv237_2 (cs : List AVal) : afieldv Tryz.prog 237 (.agg cs) 2 = cs[6]? := by kernel_rfl
@[simp] theorem fa237_3 (x : AVal) : afield Tryz.prog 237 x 3 = ashift 7 x := by kernel_rfl
@[simp] theorem fv237_3 (cs : List AVal) : afieldv Tryz.prog 237 (.agg cs) 3 = cs[7]? := by kernel_rfl
@[simp] theorem fa237_4 (x : AVal) : afield Tryz.prog 237 x 4 = ashift 8 x := by kernel_rfl
@[simp] theorem fv237_4 (cs : List AVal) : afieldv Tryz.prog 237 (.agg cs) 4 = cs[8]? := by kernel_rfl
@[simp] theorem bd237 (nl : Bool) (ps : List (Nat × AVal)) : abuild Tryz.prog nl 237 ps = afillL [(0, 3), (3, 3), (6, 1), (7, 1), (8, 1)] (if nl then [.str ByteArray.empty, .int .i64 0, .int .i64 0, .int .i64 0, .str ByteArray.empty, .int .i64 0, .int .i64 0, .bool false, .int .i64 0] else [.str ByteArray.empty, .int .i64 0, .int .i64 0, .int .i64 0, .str ByteArray.empty, .int .i64 0, .int .i64 0, .bool false, .int .i64 0]) ps := by cases nl <;> kernel_rfl
@[simp] theorem sz238 : sizeT Tryz.prog 238 = 1 := by kernel_rfl
@[simp] theorem ag238 : isAggT Tryz.prog 238 = some false := by kernel_rfl
@[simp] theorem zc238 : zcells Tryz.prog 238 = some [(.nilf, false)] := by kernel_rfl
@[simp] theorem zt238 : zeroT Tryz.prog 238 = true := by kernel_rfl
@[simp] theorem sz239 : sizeT Tryz.prog 239 = 1 := by kernel_rfl
@[simp] theorem ag239 : isAggT Tryz.prog 239 = some false := by kernel_rfl
@[simp] theorem zc239 : zcells Tryz.prog 239 = some [(.nilf, false)] := by kernel_rfl
@[simp] theorem zt239 : zeroT Tryz.prog 239 = true := by kernel_rfl
@[simp] theorem sz240 : sizeT Tryz.prog 240 = 1 := by kernel_rfl
@[simp] theorem ag240 : isAggT Tryz.prog 240 = some false := by kernel_rfl
@[simp] theorem zc240 : zcells Tryz.prog 240 = some [(.nilf, false)] := by kernel_rfl
@[simp] theorem zt240 : zeroT Tryz.prog 240 = true := by kernel_rfl
@[simp] theorem sz241 : sizeT Tryz.prog 241 = 3 := by kernel_rfl
@[simp] theorem ag241 : isAggT Tryz.prog 241 = some true := by kernel_rfl
@[simp] theorem zc241 : zcells Tryz.prog 241 = some [(.str ByteArray.empty, false), (.str ByteArray.empty, false), (.int .i64 0, false)] := by kernel_rfl
@[simp] theorem zt241 : zeroT Tryz.prog 241 = true := by kernel_rfl
@[simp] theorem fa241_0 (x : AVal) : afield Tryz.prog 241 x 0 = ashift 0 x := by kernel_rfl
@[simp] theorem fv241_0 (cs : List AVal) : afieldv Tryz.prog 241 (.agg cs) 0 = cs[0]? := by kernel_rfl
@[simp] theorem fa241_1 (x : AVal) : afield Tryz.prog 241 x 1 = ashift 1 x := by kernel_rfl
@[simp] theorem fv241_1 (cs : List AVal) : afieldv Tryz.prog 241 (.agg cs) 1 = cs[1]? := by kernel_rfl
@[simp] theorem fa241_2 (x : AVal) : afield Tryz.prog 241 x 2 = ashift 2 x := by kernel_rfl
@[simp] theorem fv241_2 (cs : List AVal) : afieldv Tryz.prog 241 (.agg cs) 2 = cs[2]? := by kernel_rfl
@[simp] theorem bd241 (nl : Bool) (ps : List (Nat × AVal)) : abuild Tryz.prog nl 241 ps = afillL [(0, 1), (1, 1), (2, 1)] (if nl then [.str ByteArray.empty, .str ByteArray.empty, .int .i64 0] else [.str ByteArray.empty, .str ByteArray.empty, .int .i64 0]) ps := by cases nl <;> kernel_rfl
@[simp] theorem sz242 : sizeT Tryz.prog 242 = 3 := by kernel_rfl
@[simp] theorem ag242 : isAggT Tryz.prog 242 = some true := by kernel_rfl
@[simp] theorem zc242 : zcells Tryz.prog 242 = some [(.str ByteArray.empty, false), (.str ByteArray.empty, false), (.int .i64 0, false)] := by kernel_rfl
@[simp] theorem zt242 : zeroT Tryz.prog 242 = true := by kernel_rfl
@[simp] theorem fa242_0 (x : AVal) : afield Tryz.prog 242 x 0 = ashift 0 x := by kernel_rfl
@[simp] theorem fv242_0 (cs : List AVal) : afieldv Tryz.prog 242 (.agg cs) 0 = cs[0]? := by kernel_rfl
@[simp] theorem fa242_1 (x : AVal) : afield Tryz.prog 242 x 1 = ashift 1 x := by kernel_rfl
@[simp] theorem fv242_1 (cs : List AVal) : afieldv Tryz.prog 242 (.agg cs) 1 = cs[1]? := by kernel_rfl
@[simp] theorem fa242_2 (x : AVal) : afield Tryz.prog 242 x 2 = ashift 2 x := by kernel_rfl
@[simp] theorem fv242_2 (cs : List AVal) : afieldv Tryz.prog 242 (.agg cs) 2 = cs[2]? := by kernel_rfl
@[simp] theorem bd242 (nl : Bool) (ps : List (Nat × AVal)) : abuild Tryz.prog nl 242 ps = afillL [(0, 1), (1, 1), (2, 1)] (if nl then [.str ByteArray.empty, .str ByteArray.empty, .int .i64 0] else [.str ByteArray.empty, .str ByteArray.empty, .int .i64 0]) ps := by cases nl <;> kernel_rfl
@[simp] theorem sz244 : sizeT Tryz.prog 244 = 1 := by kernel_rfl
@[simp] theorem ag244 : isAggT Tryz.prog 244 = some false := by kernel_rfl
@[simp] theorem zc244 : zcells Tryz.prog 244 = some [(.nilf, false)] := by kernel_rfl
@[simp] theorem zt244 : zeroT Tryz.prog 244 = true := by kernel_rfl
@[simp] theorem sz245 : sizeT Tryz.prog 245 = 1 := by kernel_rfl
@[simp] theorem ag245 : isAggT Tryz.prog 245 = some false := by kernel_rfl
@[simp] theorem zc245 : zcells Tryz.prog 245 = some [(.nilf, false)] := by kernel_rfl
@[simp] theorem zt245 : zeroT Tryz.prog 245 = true := by kernel_rfl
@[simp] theorem sz246 : sizeT Tryz.prog 246 = 1 := by kernel_rfl
@[simp] theorem ag246 : isAggT Tryz.prog 246 = some false := by kernel_rfl
@[simp] theorem zc246 : zcells Tryz.prog 246 = some [(.lst [], true)] := by kernel_rfl
@[simp] theorem zt246 : zeroT Tryz.prog 246 = true := by kernel_rfl
@[simp] theorem un246 : Tryz.prog.underlying 246 = some (.slice 37) := by kernel_rfl
@[simp] theorem st246 : slT Tryz.prog 246 = true := by kernel_rfl
@[simp] theorem ai246 : apInfo Tryz.prog 246 = some (37, 24, 1, false) := by kernel_rfl
@[simp] theorem sz247 : sizeT Tryz.prog 247 = 1 := by kernel_rfl
@[simp] theorem ag247 : isAggT Tryz.prog 247 = some false := by kernel_rfl
@[simp] theorem zc247 : zcells Tryz.prog 247 = some [(.nilp, false)] := by kernel_rfl
@[simp] theorem zt247 : zeroT Tryz.prog 247 = true := by kernel_rfl
@[simp] theorem sz248 : sizeT Tryz.prog 248 = 1 := by kernel_rfl
@[simp] theorem ag248 : isAggT Tryz.prog 248 = some false := by kernel_rfl
@[simp] theorem zc248 : zcells Tryz.prog 248 = some [(.nilf, false)] := by kernel_rfl
@[simp] theorem zt248 : zeroT Tryz.prog 248 = true := by kernel_rfl
@[simp] theorem sz249 : sizeT Tryz.prog 249 = 1 := by kernel_rfl
@[simp] theorem ag249 : isAggT Tryz.prog 249 = some false := by kernel_rfl
@[simp] theorem zc249 : zcells Tryz.prog 249 = some [(.nilf, false)] := by kernel_rfl
@[simp] theorem zt249 : zeroT Tryz.prog 249 = true := by kernel_rfl
@[simp] theorem sz250 : sizeT Tryz.prog 250 = 1 := by kernel_rfl
@[simp] theorem ag250 : isAggT Tryz.prog 250 = some false := by kernel_rfl
@[simp] theorem zc250 : zcells Tryz.prog 250 = some [(.nilf, false)] := by kernel_rfl
@[simp] theorem zt250 : zeroT Tryz.prog 250 = true := by kernel_rfl
@[simp] theorem sz251 : sizeT Tryz.prog 251 = 1 := by kernel_rfl
@[simp] theorem ag251 : isAggT Tryz.prog 251 = some false := by kernel_rfl
@[simp] theorem zc251 : zcells Tryz.prog 251 = some [(.nilf, false)] := by kernel_rfl
@[simp] theorem zt251 : zeroT Tryz.prog 251 = true := by kernel_rfl
@[simp] theorem sz252 : sizeT Tryz.prog 252 = 1 := by kernel_rfl
@[simp] theorem ag252 : isAggT Tryz.prog 252 = some false := by kernel_rfl
@[simp] theorem zc252 : zcells Tryz.prog 252 = some [(.nilf, false)] := by kernel_rfl
@[simp] theorem zt252 : zeroT Tryz.prog 252 = true := by kernel_rfl
@[simp] theorem sz253 : sizeT Tryz.prog 253 = 1 := by kernel_rfl
@[simp] theorem ag253 : isAggT Tryz.prog 253 = some false := by kernel_rfl
@[simp] theorem zc253 : zcells Tryz.prog 253 = some [(.nilf, false)] := by kernel_rfl
@[simp] theorem zt253 : zeroT Tryz.prog 253 = true := by kernel_rfl
@[simp] theorem sz255 : sizeT Tryz.prog 255 = 1 := by kernel_rfl
@[simp] theorem ag255 : isAggT Tryz.prog 255 = some false := by kernel_rfl
@[simp] theorem zc255 : zcells Tryz.prog 255 = some [(.nilf, false)] := by kernel_rfl
@[simp] theorem zt255 : zeroT Tryz.prog 255 = true := by kernel_rfl
@[simp] theorem sz257 : sizeT Tryz.prog 257 = 1 := by kernel_rfl
@[simp] theorem ag257 : isAggT Tryz.prog 257 = some false := by kernel_rfl
@[simp] theorem zc257 : zcells Tryz.prog 257 = some [(.nilf, false)] := by kernel_rfl
@[simp] theorem zt257 : zeroT Tryz.prog 257 = true := by kernel_rfl
@[simp] theorem sz258 : sizeT Tryz.prog 258 = 1 := by kernel_rfl
@[simp] theorem ag258 : isAggT Tryz.prog 258 = some false := by kernel_rfl
@[simp] theorem zc258 : zcells Tryz.prog 258 = some [(.nilf, false)] := by kernel_rfl
@[simp] theorem zt258 : zeroT Tryz.prog 258 = true := by kernel_rfl
@[simp] theorem sz259 : sizeT Tryz.prog 259 = 1 := by kernel_rfl
@[simp] theorem ag259 : isAggT Tryz.prog 259 = some false := by kernel_rfl
@[simp] theorem zc259 : zcells Tryz.prog 259 = some [(.nilf, false)] := by kernel_rfl
@[simp] theorem zt259 : zeroT Tryz.prog 259 = true := by kernel_rfl
@[simp] theorem sz260 : sizeT Tryz.prog 260 = 1 := by kernel_rfl
@[simp] theorem ag260 : isAggT Tryz.prog 260 = some false := by kernel_rfl
@[simp] theorem zc260 : zcells Tryz.prog 260 = some [(.nilf, false)] := by kernel_rfl
@[simp] theorem zt260 : zeroT Tryz.prog 260 = true := by kernel_rfl
@[simp] theorem sz261 : sizeT Tryz.prog 261 = 1 := by kernel_rfl
@[simp] theorem ag261 : isAggT Tryz.prog 261 = some false := by kernel_rfl
@[simp] theorem zc261 : zcells Tryz.prog 261 = some [(.nilf, false)] := by kernel_rfl
@[simp] theorem zt261 : zeroT Tryz.prog 261 = true := by kernel_rfl
@[simp] theorem sz262 : sizeT Tryz.prog 262 = 1 := by kernel_rfl
@[simp] theorem ag262 : isAggT Tryz.prog 262 = some false := by kernel_rfl
@[simp] theorem zc262 : zcells Tryz.prog 262 = some [(.nilf, false)] := by kernel_rfl
@[simp] theorem zt262 : zeroT Tryz.prog 262 = true := by kernel_rfl
@[simp] theorem sz264 : sizeT Tryz.prog 264 = 1 := by kernel_rfl
@[simp] theorem ag264 : isAggT Tryz.prog 264 = some false := by kernel_rfl
@[simp] theorem zc264 : zcells Tryz.prog 264 = some [(.nilf, false)] := by kernel_rfl
@[simp] theorem zt264 : zeroT Tryz.prog 264 = true := by kernel_rfl
@[simp] theorem sz265 : sizeT Tryz.prog 265 = 1 := by kernel_rfl
@[simp] theorem ag265 : isAggT Tryz.prog 265 = some false := by kernel_rfl
@[simp] theorem zc265 : zcells Tryz.prog 265 = some [(.nilf, false)] := by kernel_rfl
@[simp] theorem zt265 : zeroT Tryz.prog 265 = true := by kernel_rfl
@[simp] theorem sz266 : sizeT Tryz.prog 266 = 1 := by kernel_rfl
@[simp] theorem ag266 : isAggT Tryz.prog 266 = some false := by kernel_rfl
@[simp] theorem zc266 : zcells Tryz.prog 266 = some [(.int .u32 0, false)] := by kernel_rfl
@[simp] theorem zt266 : zeroT Tryz.prog 266 = true := by kernel_rfl
@[simp] theorem sz268 : sizeT Tryz.prog 268 = 1 := by kernel_rfl
@[simp] theorem ag268 : isAggT Tryz.prog 268 = some false := by kernel_rfl
@[simp] theorem zc268 : zcells Tryz.prog 268 = some [(.nilf, false)] := by kernel_rfl
@[simp] theorem zt268 : zeroT Tryz.prog 268 = true := by kernel_rfl
@[simp] theorem sz269 : sizeT Tryz.prog 269 = 1 := by kernel_rfl
@[simp] theorem ag269 : isAggT Tryz.prog 269 = some false := by kernel_rfl
@[simp] theorem zc269 : zcells Tryz.prog 269 = some [(.int .u64 0, false)] := by kernel_rfl
@[simp] theorem zt269 : zeroT Tryz.prog 269 = true := by kernel_rfl
@[simp] theorem sz271 : sizeT Tryz.prog 271 = 1 := by kernel_rfl
@[simp] theorem ag271 : isAggT Tryz.prog 271 = some false := by kernel_rfl
@[simp] theorem zc271 : zcells Tryz.prog 271 = some [(.nilf, false)] := by kernel_rfl
@[simp] theorem zt271 : zeroT Tryz.prog 271 = true := by kernel_rfl
@[simp] theorem sz272 : sizeT Tryz.prog 272 = 1 := by kernel_rfl
@[simp] theorem ag272 : isAggT Tryz.prog 272 = some false := by kernel_rfl
@[simp] theorem zc272 : zcells Tryz.prog 272 = some [(.nilf, false)] := by kernel_rfl
@[simp] theorem zt272 : zeroT Tryz.prog 272 = true := by kernel_rfl
@[simp] theorem sz273 : sizeT Tryz.prog 273 = 1 := by kernel_rfl
@[simp] theorem ag273 : isAggT Tryz.prog 273 = some false := by kernel_rfl
@[simp] theorem zc273 : zcells Tryz.prog 273 = some [(.int .i64 0, false)] := by kernel_rfl
@[simp] theorem zt273 : zeroT Tryz.prog 273 = true := by kernel_rfl
@[simp] theorem sz275 : sizeT Tryz.prog 275 = 1 := by kernel_rfl
@[simp] theorem ag275 : isAggT Tryz.prog 275 = some false := by kernel_rfl
@[simp] theorem zc275 : zcells Tryz.prog 275 = some [(.nilf, false)] := by kernel_rfl
@[simp] theorem zt275 : zeroT Tryz.prog 275 = true := by kernel_rfl
@[simp] theorem sz276 : sizeT Tryz.prog 276 = 1 := by kernel_rfl
@[simp] theorem ag276 : isAggT Tryz.prog 276 = some false := by kernel_rfl
@[simp] theorem zc276 : zcells Tryz.prog 276 = some [(.nilf, false)] := by kernel_rfl
@[simp] theorem zt276 : zeroT Tryz.prog 276 = true := by kernel_rfl
@[simp] theorem sz277 : sizeT Tryz.prog 277 = 1 := by kernel_rfl
@[simp] theorem ag277 : isAggT Tryz.prog 277 = some false := by kernel_rfl
@[simp] theorem zc277 : zcells Tryz.prog 277 = some [(.nilf, false)] := by kernel_rfl
@[simp] theorem zt277 : zeroT Tryz.prog 277 = true := by kernel_rfl
@[simp] theorem sz278 : sizeT Tryz.prog 278 = 1 := by kernel_rfl
@[simp] theorem ag278 : isAggT Tryz.prog 278 = some false := by kernel_rfl
@[simp] theorem zc278 : zcells Tryz.prog 278 = some [(.nilf, false)] := by kernel_rfl
@[simp] theorem zt278 : zeroT Tryz.prog 278 = true := by kernel_rfl
@[simp] theorem sz279 : sizeT Tryz.prog 279 = 1 := by kernel_rfl
@[simp] theorem ag279 : isAggT Tryz.prog 279 = some false := by kernel_rfl
@[simp] theorem zc279 : zcells Tryz.prog 279 = some [(.nilf, false)] := by kernel_rfl
@[simp] theorem zt279 : zeroT Tryz.prog 279 = true := by kernel_rfl
@[simp] theorem sz280 : sizeT Tryz.prog 280 = 1 := by kernel_rfl
@[simp] theorem ag280 : isAggT Tryz.prog 280 = some false := by kernel_rfl
@[simp] theorem zc280 : zcells Tryz.prog 280 = some [(.nilf, false)] := by kernel_rfl
@[simp] theorem zt280 : zeroT Tryz.prog 280 = true := by kernel_rfl
@[simp] theorem sz281 : sizeT Tryz.prog 281 = 1 := by kernel_rfl
@[simp] theorem ag281 : isAggT Tryz.prog 281 = some false := by kernel_rfl
@[simp] theorem zc281 : zcells Tryz.prog 281 = some [(.nilf, false)] := by kernel_rfl
@[simp] theorem zt281 : zeroT Tryz.prog 281 = true := by kernel_rfl
@[simp] theorem sz285 : sizeT Tryz.prog 285 = 1 := by kernel_rfl
@[simp] theorem ag285 : isAggT Tryz.prog 285 = some false := by kernel_rfl
@[simp] theorem zc285 : zcells Tryz.prog 285 = some [(.nilf, false)] := by kernel_rfl
@[simp] theorem zt285 : zeroT Tryz.prog 285 = true := by kernel_rfl
@[simp] theorem sz286 : sizeT Tryz.prog 286 = 1 := by kernel_rfl
@[simp] theorem ag286 : isAggT Tryz.prog 286 = some false := by kernel_rfl
@[simp] theorem zc286 : zcells Tryz.prog 286 = some [(.nilf, false)] := by kernel_rfl
@[simp] theorem zt286 : zeroT Tryz.prog 286 = true := by kernel_rfl
@[simp] theorem sz287 : sizeT Tryz.prog 287 = 1 := by kernel_rfl
@[simp] theorem ag287 : isAggT Tryz.prog 287 = some false := by kernel_rfl
@[simp] theorem zc287 : zcells Tryz.prog 287 = some [(.nilp, false)] := by kernel_rfl
@[simp] theorem zt287 : zeroT Tryz.prog 287 = true := by kernel_rfl
@[simp] theorem sz288 : sizeT Tryz.prog 288 = 1 := by kernel_rfl
@[simp] theorem ag288 : isAggT Tryz.prog 288 = some false := by kernel_rfl
@[simp] theorem zc288 : zcells Tryz.prog 288 = some [(.nilf, false)] := by kernel_rfl
@[simp] theorem zt288 : zeroT Tryz.prog 288 = true := by kernel_rfl
@[simp] theorem sz289 : sizeT Tryz.prog 289 = 1 := by kernel_rfl
@[simp] theorem ag289 : isAggT Tryz.prog 289 = some false := by kernel_rfl
@[simp] theorem zc289 : zcells Tryz.prog 289 = some [(.nilf, false)] := by kernel_rfl
@[simp] theorem zt289 : zeroT Tryz.prog 289 = true := by kernel_rfl
@[simp] theorem sz290 : sizeT Tryz.prog 290 = 1 := by kernel_rfl
@[simp] theorem ag290 : isAggT Tryz.prog 290 = some false := by kernel_rfl
@[simp] theorem zc290 : zcells Tryz.prog 290 = some [(.nilm, false)] := by kernel_rfl
@[simp] theorem zt290 : zeroT Tryz.prog 290 = true := by kernel_rfl
@[simp] theorem un290 : Tryz.prog.underlying 290 = some (.map 3 3) := by kernel_rfl
@[simp] theorem sz291 : sizeT Tryz.prog 291 = 1 := by kernel_rfl
@[simp] theorem ag291 : isAggT Tryz.prog 291 = some false := by kernel_rfl
@[simp] theorem zc291 : zcells Tryz.prog 291 = some [(.nilp, false)] := by kernel_rfl
@[simp] theorem zt291 : zeroT Tryz.prog 291 = true := by kernel_rfl
@[simp] theorem sz292 : sizeT Tryz.prog 292 = 1 := by kernel_rfl
@[simp] theorem ag292 : isAggT Tryz.prog 292 = some false := by kernel_rfl
@[simp] theorem zc292 : zcells Tryz.prog 292 = some [(.nilf, false)] := by kernel_rfl
@[simp] theorem zt292 : zeroT Tryz.prog 292 = true := by kernel_rfl
@[simp] theorem sz293 : sizeT Tryz.prog 293 = 1 := by kernel_rfl
@[simp] theorem ag293 : isAggT Tryz.prog 293 = some false := by kernel_rfl
@[simp] theorem zc293 : zcells Tryz.prog 293 = some [(.nilf, false)] := by kernel_rfl
@[simp] theorem zt293 : zeroT Tryz.prog 293 = true := by kernel_rfl
@[simp] theorem sz294 : sizeT Tryz.prog 294 = 1 := by kernel_rfl
@[simp] theorem ag294 : isAggT Tryz.prog 294 = some false := by kernel_rfl
@[simp] theorem zc294 : zcells Tryz.prog 294 = some [(.nilf, false)] := by kernel_rfl
@[simp] theorem zt294 : zeroT Tryz.prog 294 = true := by kernel_rfl
@[simp] theorem sz295 : sizeT Tryz.prog 295 = 1 := by kernel_rfl
@[simp] theorem ag295 : isAggT Tryz.prog 295 = some false := by kernel_rfl
@[simp] theorem zc295 : zcells Tryz.prog 295 = some [(.nilf, false)] := by kernel_rfl
@[simp] theorem zt295 : zeroT Tryz.prog 295 = true := by kernel_rfl
@[simp] theorem sz296 : sizeT Tryz.prog 296 = 1 := by kernel_rfl
@[simp] theorem ag296 : isAggT Tryz.prog 296 = some false := by kernel_rfl
@[simp] theorem zc296 : zcells Tryz.prog 296 = some [(.nilf, false)] := by kernel_rfl
@[simp] theorem zt296 : zeroT Tryz.prog 296 = true := by kernel_rfl
@[simp] theorem sz297 : sizeT Tryz.prog 297 = 1 := by kernel_rfl
@[simp] theorem ag297 : isAggT Tryz.prog 297 = some false := by kernel_rfl
@[simp] theorem zc297 : zcells Tryz.prog 297 = some [(.nilf, false)] := by kernel_rfl
@[simp] theorem zt297 : zeroT Tryz.prog 297 = true := by kernel_rfl
@[simp] theorem sz298 : sizeT Tryz.prog 298 = 1 := by kernel_rfl
@[simp] theorem ag298 : isAggT Tryz.prog 298 = some false := by kernel_rfl
@[simp] theorem zc298 : zcells Tryz.prog 298 = some [(.nilf, false)] := by kernel_rfl
@[simp] theorem zt298 : zeroT Tryz.prog 298 = true := by kernel_rfl
@[simp] theorem sz299 : sizeT Tryz.prog 299 = 1 := by kernel_rfl
@[simp] theorem ag299 : isAggT Tryz.prog 299 = some false := by kernel_rfl
@[simp] theorem zc299 : zcells Tryz.prog 299 = some [(.nilp, false)] := by kernel_rfl
@[simp] theorem zt299 : zeroT Tryz.prog 299 = true := by kernel_rfl
@[simp] theorem sz300 : sizeT Tryz.prog 300 = 1 := by kernel_rfl
@[simp] theorem ag300 : isAggT Tryz.prog 300 = some false := by kernel_rfl
@[simp] theorem zc300 : zcells Tryz.prog 300 = some [(.nilf, false)] := by kernel_rfl
@[simp] theorem zt300 : zeroT Tryz.prog 300 = true := by kernel_rfl
@[simp] theorem sz301 : sizeT Tryz.prog 301 = 1 := by kernel_rfl
@[simp] theorem ag301 : isAggT Tryz.prog 301 = some false := by kernel_rfl
@[simp] theorem zc301 : zcells Tryz.prog 301 = some [(.nilf, false)] := by kernel_rfl
@[simp] theorem zt301 : zeroT Tryz.prog 301 = true := by kernel_rfl
@[simp] theorem sz302 : sizeT Tryz.prog 302 = 1 := by kernel_rfl
@[simp] theorem ag302 : isAggT Tryz.prog 302 = some false := by kernel_rfl
@[simp] theorem zc302 : zcells Tryz.prog 302 = some [(.nilf, false)] := by kernel_rfl
@[simp] theorem zt302 : zeroT Tryz.prog 302 = true := by kernel_rfl
@[simp] theorem sz303 : sizeT Tryz.prog 303 = 7 := by kernel_rfl
@[simp] theorem ag303 : isAggT Tryz.prog 303 = some true := by kernel_rfl
@[simp] theorem zc303 : zcells Tryz.prog 303 = some [(.bool false, false), (.bool false, false), (.bool false, false), (.bool false, false), (.bool false, false), (.bool false, false), (.bool false, false)] := by kernel_rfl
@[simp] theorem zt303 : zeroT Tryz.prog 303 = true := by kernel_rfl
@[simp] theorem fa303_0 (x : AVal) : afield Tryz.prog 303 x 0 = ashift 0 x := by kernel_rfl
@[simp] theorem fv303_0 (cs : List AVal) : afieldv Tryz.prog 303 (.agg cs) 0 = cs[0]? := by kernel_rfl
@[simp] theorem fa303_1 (x : AVal) : afield Tryz.prog 303 x 1 = ashift 1 x := by kernel_rfl
@[simp] theorem fv303_1 (cs : List AVal) : afieldv Tryz.prog 303 (.agg cs) 1 = cs[1]? := by kernel_rfl
@[simp] theorem fa303_2 (x : AVal) : afield Tryz.prog 303 x 2 = ashift 2 x := by kernel_rfl
@[simp] theorem fv303_2 (cs : List AVal) : afieldv Tryz.prog 303 (.agg cs) 2 = cs[2]? := by kernel_rfl
@[simp] theorem fa303_3 (x : AVal) : afield Tryz.prog 303 x 3 = ashift 3 x := by kernel_rfl
@[simp] theorem fv303_3 (cs : List AVal) : afieldv Tryz.prog 303 (.agg cs) 3 = cs[3]? := by kernel_rfl
@[simp] theorem fa303_4 (x : AVal) : afield Tryz.prog 303 x 4 = ashift 4 x := by kernel_rfl
@[simp] theorem fv303_4 (cs : List AVal) : afieldv Tryz.prog 303 (.agg cs) 4 = cs[4]? := by kernel_rfl
@[simp] theorem fa303_5 (x : AVal) : afield Tryz.prog 303 x 5 = ashift 5 x := by kernel_rfl
@[simp] theorem fv303_5 (cs : List AVal) : afieldv Tryz.prog 303 (.agg cs) 5 = cs[5]? := by kernel_rfl
@[simp] theorem fa303_6 (x : AVal) : afield Tryz.prog 303 x 6 = ashift 6 x := by kernel_rfl
@[simp] theorem fv303_6 (cs : List AVal) : afieldv Tryz.prog 303 (.agg cs) 6 = cs[6]? := by kernel_rfl
@[simp] theorem bd303 (nl : Bool) (ps : List (Nat × AVal)) : abuild Tryz.prog nl 303 ps = afillL [(0, 1), (1, 1), (2, 1), (3, 1), (4, 1), (5, 1), (6, 1)] (if nl then [.bool false, .bool false, .bool false, .bool false, .bool false, .bool false, .bool false] else [.bool false, .bool false, .bool false, .bool false, .bool false, .bool false, .bool false]) ps := by cases nl <;> kernel_rfl
@[simp] theorem sz304 : sizeT Tryz.prog 304 = 7 := by kernel_rfl
@[simp] theorem ag304 : isAggT Tryz.prog 304 = some true := by kernel_rfl
@[simp] theorem zc304 : zcells Tryz.prog 304 = some [(.bool false, false), (.bool false, false), (.bool false, false), (.bool false, false), (.bool false, false), (.bool false, false), (.bool false, false)] := by kernel_rfl
@[simp] theorem zt304 : zeroT Tryz.prog 304 = true := by kernel_rfl
@[simp] theorem fa304_0 (x : AVal) : afield Tryz.prog 304 x 0 = ashift 0 x := by kernel_rfl
@[simp] theorem fv304_0 (cs : List AVal) : afieldv Tryz.prog 304 (.agg cs) 0 = cs[0]? := by kernel_rfl
@[simp] theorem fa304_1 (x : AVal) : afield Tryz.prog 304 x 1 = ashift 1 x := by kernel_rfl
@[simp] theorem fv304_1 (cs : List AVal) : afieldv Tryz.prog 304 (.agg cs) 1 = cs[1]? := by kernel_rfl
@[simp] theorem fa304_2 (x : AVal) : afield Tryz.prog 304 x 2 = ashift 2 x := by kernel_rfl
@[simp] theorem fv304_2 (cs : List AVal) : afieldv Tryz.prog 304 (.agg cs) 2 = cs[2]? := by kernel_rfl
@[simp] theorem fa304_3 (x : AVal) : afield Tryz.prog 304 x 3 = ashift 3 x := by kernel_rfl
@[simp] theorem fv304_3 (cs : List AVal) : afieldv Tryz.prog 304 (.agg cs) 3 = cs[3]? := by kernel_rfl
@[simp] theorem fa304_4 (x : AVal) : afield Tryz.prog 304 x 4 = ashift 4 x := by kernel_rfl
@[simp] theorem fv304_4 (cs : List AVal) : afieldv Tryz.prog 304 (.agg cs) 4 = cs[4]? := by kernel_rfl
@[simp] theorem fa304_5 (x : AVal) : afield Tryz.prog 304 x 5 = ashift 5 x := by kernel_rfl
@[simp] theorem fv304_5 (cs : List AVal) : afieldv Tryz.prog 304 (.agg cs) 5 = cs[5]? := by kernel_rfl
@[simp] theorem fa304_6 (x : AVal) : afield Tryz.prog 304 x 6 = ashift 6 x := by kernel_rfl
@[simp] theorem fv304_6 (cs : List AVal) : afieldv Tryz.prog 304 (.agg cs) 6 = cs[6]? := by kernel_rfl
@[simp] theorem bd304 (nl : Bool) (ps : List (Nat × AVal)) : abuild Tryz.prog nl 304 ps = afillL [(0, 1), (1, 1), (2, 1), (3, 1), (4, 1), (5, 1), (6, 1)] (if nl then [.bool false, .bool false, .bool false, .bool false, .bool false, .bool false, .bool false] else [.bool false, .bool false, .bool false, .bool false, .bool false, .bool false, .bool false]) ps := by cases nl <;> kernel_rfl
@[simp] theorem sz305 : sizeT Tryz.prog 305 = 1 := by kernel_rfl
@[simp] theorem ag305 : isAggT Tryz.prog 305 = some false := by kernel_rfl
@[simp] theorem zc305 : zcells Tryz.prog 305 = some [(.nilf, false)] := by kernel_rfl
@[simp] theorem zt305 : zeroT Tryz.prog 305 = true := by kernel_rfl
@[simp] theorem sz306 : sizeT Tryz.prog 306 = 1 := by kernel_rfl
@[simp] theorem ag306 : isAggT Tryz.prog 306 = some false := by kernel_rfl
@[simp] theorem zc306 : zcells Tryz.prog 306 = some [(.lst [], true)] := by kernel_rfl
@[simp] theorem zt306 : zeroT Tryz.prog 306 = true := by kernel_rfl
@[simp] theorem un306 : Tryz.prog.underlying 306 = some (.slice 309) := by kernel_rfl
@[simp] theorem st306 : slT Tryz.prog 306 = true := by kernel_rfl
@[simp] theorem ai306 : apInfo Tryz.prog 306 = some (309, 232, 15, true) := by kernel_rfl
@[simp] theorem sz307 : sizeT Tryz.prog 307 = 1 := by kernel_rfl
@[simp] theorem ag307 : isAggT Tryz.prog 307 = some false := by kernel_rfl
@[simp] theorem zc307 : zcells Tryz.prog 307 = some [(.nilf, false)] := by kernel_rfl
@[simp] theorem zt307 : zeroT Tryz.prog 307 = true := by kernel_rfl
@[simp] theorem sz308 : sizeT Tryz.prog 308 = 15 := by kernel_rfl
@[simp] theorem ag308 : isAggT Tryz.prog 308 = some true := by kernel_rfl
@[simp] theorem zc308 : zcells Tryz.prog 308 = some [(.int .i64 0, false), (.str ByteArray.empty, false), (.str ByteArray.empty, false), (.str ByteArray.empty, false), (.str ByteArray.empty, false), (.int .i64 0, false), (.int .i64 0, false), (.str ByteArray.empty, false), (.lst [], true), (.lst [], true), (.lst [], true), (.str ByteArray.empty, false), (.lst [], true), (.int .i64 0, false), (.bool false, false)] := by kernel_rfl
@[simp] theorem zt308 : zeroT Tryz.prog 308 = true := by kernel_rfl
@[simp] theorem fa308_0 (x : AVal) : afield Tryz.prog 308 x 0 = ashift 0 x := by kernel_rfl
@[simp] theorem fv308_0 (cs : List AVal) : afieldv Tryz.prog 308 (.agg cs) 0 = if 0 + 13 ≤ cs.length then some (.agg ((cs.drop 0).take 13)) else none := by kernel_rfl
@[simp] theorem fa308_1 (x : AVal) : afield Tryz.prog 308 x 1 = ashift 13 x := by kernel_rfl
@[simp] theorem fv308_1 (cs : List AVal) : afieldv Tryz.prog 308 (.agg cs) 1 = cs[13]? := by kernel_rfl
@[simp] theorem fa308_2 (x : AVal) : afield Tryz.prog 308 x 2 = ashift 14 x := by kernel_rfl
@[simp] theorem fv308_2 (cs : List AVal) : afieldv Tryz.prog 308 (.agg cs) 2 = cs[14]? := by kernel_rfl
@[simp] theorem bd308 (nl : Bool) (ps : List (Nat × AVal)) : abuild Tryz.prog nl 308 ps = afillL [(0, 13), (13, 1), (14, 1)] (if nl then [.int .i64 0, .str ByteArray.empty, .str ByteArray.empty, .str ByteArray.empty, .str ByteArray.empty, .int .i64 0, .int .i64 0, .str ByteArray.empty, .nils, .nils, .nils, .str ByteArray.empty, .nils, .int .i64 0, .bool false] else [.int .i64 0, .str ByteArray.empty, .str ByteArray.empty, .str ByteArray.empty, .str ByteArray.empty, .int .i64 0, .int .i64 0, .str ByteArray.empty, .lst [], .lst [], .lst [], .str ByteArray.empty, .lst [], .int .i64 0, .bool false]) ps := by cases nl <;> kernel_rfl
@[simp] theorem sz309 : sizeT Tryz.prog 309 = 15 := by kernel_rfl
@[simp] theorem ag309 : isAggT Tryz.prog 309 = some true := by kernel_rfl
@[simp] theorem zc309 : zcells Tryz.prog 309 = some [(.int .i64 0, false), (.str ByteArray.empty, false), (.str ByteArray.empty, false), (.str ByteArray.empty, false), (.str ByteArray.empty, false), (.int .i64 0, false), (.int .i64 0, false), (.str ByteArray.empty, false), (.lst [], true), (.lst [], true), (.lst [], true), (.str ByteArray.empty, false), (.lst [], true), (.int .i64 0, false), (.bool false, false)] := by kernel_rfl
@[simp] theorem zt309 : zeroT Tryz.prog 309 = true := by kernel_rfl
@[simp] theorem fa309_0 (x : AVal) : afield Tryz.prog 309 x 0 = ashift 0 x := by kernel_rfl
@[simp] theorem fv309_0 (cs : List AVal) : afieldv Tryz.prog 309 (.agg cs) 0 = if 0 + 13 ≤ cs.length then some (.agg ((cs.drop 0).take 13)) else none := by kernel_rfl
@[simp] theorem fa309_1 (x : AVal) : afield Tryz.prog 309 x 1 = ashift 13 x := by kernel_rfl
@[simp] theorem fv309_1 (cs : List AVal) : afieldv Tryz.prog 309 (.agg cs) 1 = cs[13]? := by kernel_rfl
@[simp] theorem fa309_2 (x : AVal) : afield Tryz.prog 309 x 2 = ashift 14 x := by kernel_rfl
@[simp] theorem fv309_2 (cs : List AVal) : afieldv Tryz.prog 309 (.agg cs) 2 = cs[14]? := by kernel_rfl
@[simp] theorem bd309 (nl : Bool) (ps : List (Nat × AVal)) : abuild Tryz.prog nl 309 ps = afillL [(0, 13), (13, 1), (14, 1)] (if nl then [.int .i64 0, .str ByteArray.empty, .str ByteArray.empty, .str ByteArray.empty, .str ByteArray.empty, .int .i64 0, .int .i64 0, .str ByteArray.empty, .nils, .nils, .nils, .str ByteArray.empty, .nils, .int .i64 0, .bool false] else [.int .i64 0, .str ByteArray.empty, .str ByteArray.empty, .str ByteArray.empty, .str ByteArray.empty, .int .i64 0, .int .i64 0, .str ByteArray.empty, .lst [], .lst [], .lst [], .str ByteArray.empty, .lst [], .int .i64 0, .bool false]) ps := by cases nl <;> kernel_rfl
@[simp] theorem sz310 : sizeT Tryz.prog 310 = 1 := by kernel_rfl
@[simp] theorem ag310 : isAggT Tryz.prog 310 = some false := by kernel_rfl
@[simp] theorem zc310 : zcells Tryz.prog 310 = some [(.nilf, false)] := by kernel_rfl
@[simp] theorem zt310 : zeroT Tryz.prog 310 = true := by kernel_rfl
@[simp] theorem sz311 : sizeT Tryz.prog 311 = 1 := by kernel_rfl
@[simp] theorem ag311 : isAggT Tryz.prog 311 = some false := by kernel_rfl
@[simp] theorem zc311 : zcells Tryz.prog 311 = some [(.nilf, false)] := by kernel_rfl
@[simp] theorem zt311 : zeroT Tryz.prog 311 = true := by kernel_rfl
@[simp] theorem sz312 : sizeT Tryz.prog 312 = 1 := by kernel_rfl
@[simp] theorem ag312 : isAggT Tryz.prog 312 = some false := by kernel_rfl
@[simp] theorem zc312 : zcells Tryz.prog 312 = some [(.nilf, false)] := by kernel_rfl
@[simp] theorem zt312 : zeroT Tryz.prog 312 = true := by kernel_rfl
@[simp] theorem sz313 : sizeT Tryz.prog 313 = 1 := by kernel_rfl
@[simp] theorem ag313 : isAggT Tryz.prog 313 = some false := by kernel_rfl
@[simp] theorem zc313 : zcells Tryz.prog 313 = some [(.nilf, false)] := by kernel_rfl
@[simp] theorem zt313 : zeroT Tryz.prog 313 = true := by kernel_rfl
@[simp] theorem sz314 : sizeT Tryz.prog 314 = 1 := by kernel_rfl
@[simp] theorem ag314 : isAggT Tryz.prog 314 = some false := by kernel_rfl
@[simp] theorem zc314 : zcells Tryz.prog 314 = some [(.nilf, false)] := by kernel_rfl
@[simp] theorem zt314 : zeroT Tryz.prog 314 = true := by kernel_rfl
@[simp] theorem sz315 : sizeT Tryz.prog 315 = 1 := by kernel_rfl
@[simp] theorem ag315 : isAggT Tryz.prog 315 = some false := by kernel_rfl
@[simp] theorem zc315 : zcells Tryz.prog 315 = some [(.nilf, false)] := by kernel_rfl
@[simp] theorem zt315 : zeroT Tryz.prog 315 = true := by kernel_rfl
@[simp] theorem sz316 : sizeT Tryz.prog 316 = 1 := by kernel_rfl
@[simp] theorem ag316 : isAggT Tryz.prog 316 = some false := by kernel_rfl
@[simp] theorem zc316 : zcells Tryz.prog 316 = some [(.int .u64 0, false)] := by kernel_rfl
@[simp] theorem zt316 : zeroT Tryz.prog 316 = true := by kernel_rfl
@[simp] theorem sz317 : sizeT Tryz.prog 317 = 1 := by kernel_rfl
@[simp] theorem ag317 : isAggT Tryz.prog 317 = some false := by kernel_rfl
@[simp] theorem zc317 : zcells Tryz.prog 317 = some [(.nilf, false)] := by kernel_rfl
@[simp] theorem zt317 : zeroT Tryz.prog 317 = true := by kernel_rfl
@[simp] theorem sz318 : sizeT Tryz.prog 318 = 1 := by kernel_rfl
@[simp] theorem ag318 : isAggT Tryz.prog 318 = some false := by kernel_rfl
@[simp] theorem zc318 : zcells Tryz.prog 318 = some [(.nilf, false)] := by kernel_rfl
@[simp] theorem zt318 : zeroT Tryz.prog 318 = true := by kernel_rfl
@[simp] theorem sz319 : sizeT Tryz.prog 319 = 1 := by kernel_rfl
@[simp] theorem ag319 : isAggT Tryz.prog 319 = some false := by kernel_rfl
@[simp] theorem zc319 : zcells Tryz.prog 319 = some [(.nilf, false)] := by kernel_rfl
@[simp] theorem zt319 : zeroT Tryz.prog 319 = true := by kernel_rfl
@[simp] theorem sz320 : sizeT Tryz.prog 320 = 1 := by kernel_rfl
@[simp] theorem ag320 : isAggT Tryz.prog 320 = some false := by kernel_rfl
@[simp] theorem zc320 : zcells Tryz.prog 320 = some [(.nilf, false)] := by kernel_rfl
@[simp] theorem zt320 : zeroT Tryz.prog 320 = true := by kernel_rfl
@[simp] theorem sz321 : sizeT Tryz.prog 321 = 1 := by kernel_rfl
@[simp] theorem ag321 : isAggT Tryz.prog 321 = some false := by kernel_rfl
@[simp] theorem zc321 : zcells Tryz.prog 321 = some [(.nilf, false)] := by kernel_rfl
@[simp] theorem zt321 : zeroT Tryz.prog 321 = true := by kernel_rfl
@[simp] theorem sz322 : sizeT Tryz.prog 322 = 1 := by kernel_rfl
@[simp] theorem ag322 : isAggT Tryz.prog 322 = some false := by kernel_rfl
@[simp] theorem zc322 : zcells Tryz.prog 322 = some [(.nilf, false)] := by kernel_rfl
@[simp] theorem zt322 : zeroT Tryz.prog 322 = true := by kernel_rfl
@[simp] theorem sz323 : sizeT Tryz.prog 323 = 1 := by kernel_rfl
@[simp] theorem ag323 : isAggT Tryz.prog 323 = some false := by kernel_rfl
@[simp] theorem zc323 : zcells Tryz.prog 323 = some [(.nilf, false)] := by kernel_rfl
@[simp] theorem zt323 : zeroT Tryz.prog 323 = true := by kernel_rfl
@[simp] theorem sz324 : sizeT Tryz.prog 324 = 1 := by kernel_rfl
@[simp] theorem ag324 : isAggT Tryz.prog 324 = some false := by kernel_rfl
@[simp] theorem zc324 : zcells Tryz.prog 324 = some [(.nilf, false)] := by kernel_rfl
@[simp] theorem zt324 : zeroT Tryz.prog 324 = true := by kernel_rfl
@[simp] theorem sz325 : sizeT Tryz.prog 325 = 1 := by kernel_rfl
@[simp] theorem ag325 : isAggT Tryz.prog 325 = some false := by kernel_rfl
@[simp] theorem zc325 : zcells Tryz.prog 325 = some [(.nilf, false)] := by kernel_rfl
@[simp] theorem zt325 : zeroT Tryz.prog 325 = true := by kernel_rfl
@[simp] theorem sz326 : sizeT Tryz.prog 326 = 1 := by kernel_rfl
@[simp] theorem ag326 : isAggT Tryz.prog 326 = some false := by kernel_rfl
@[simp] theorem zc326 : zcells Tryz.prog 326 = some [(.nilf, false)] := by kernel_rfl
@[simp] theorem zt326 : zeroT Tryz.prog 326 = true := by kernel_rfl
@[simp] theorem sz327 : sizeT Tryz.prog 327 = 1 := by kernel_rfl
@[simp] theorem ag327 : isAggT Tryz.prog 327 = some false := by kernel_rfl
@[simp] theorem zc327 : zcells Tryz.prog 327 = some [(.nilf, false)] := by kernel_rfl
@[simp] theorem zt327 : zeroT Tryz.prog 327 = true := by kernel_rfl
@[simp] theorem sz328 : sizeT Tryz.prog 328 = 1 := by kernel_rfl
@[simp] theorem ag328 : isAggT Tryz.prog 328 = some false := by kernel_rfl
@[simp] theorem zc328 : zcells Tryz.prog 328 = some [(.nilf, false)] := by kernel_rfl
@[simp] theorem zt328 : zeroT Tryz.prog 328 = true := by kernel_rfl
@[simp] theorem sz329 : sizeT Tryz.prog 329 = 1 := by kernel_rfl
@[simp] theorem ag329 : isAggT Tryz.prog 329 = some false := by kernel_rfl
@[simp] theorem zc329 : zcells Tryz.prog 329 = some [(.nilf, false)] := by kernel_rfl
@[simp] theorem zt329 : zeroT Tryz.prog 329 = true := by kernel_rfl
@[simp] theorem sz330 : sizeT Tryz.prog 330 = 1 := by kernel_rfl
@[simp] theorem ag330 : isAggT Tryz.prog 330 = some false := by kernel_rfl
@[simp] theorem zc330 : zcells Tryz.prog 330 = some [(.nilf, false)] := by kernel_rfl
@[simp] theorem zt330 : zeroT Tryz.prog 330 = true := by kernel_rfl
@[simp] theorem sz331 : sizeT Tryz.prog 331 = 1 := by kernel_rfl
@[simp] theorem ag331 : isAggT Tryz.prog 331 = some false := by kernel_rfl
@[simp] theorem zc331 : zcells Tryz.prog 331 = some [(.nilf, false)] := by kernel_rfl
@[simp] theorem zt331 : zeroT Tryz.prog 331 = true := by kernel_rfl
@[simp] theorem sz332 : sizeT Tryz.prog 332 = 1 := by kernel_rfl
@[simp] theorem ag332 : isAggT Tryz.prog 332 = some false := by kernel_rfl
@[simp] theorem zc332 : zcells Tryz.prog 332 = some [(.nilf, false)] := by kernel_rfl
@[simp] theorem zt332 : zeroT Tryz.prog 332 = true := by kernel_rfl
@[simp] theorem sz334 : sizeT Tryz.prog 334 = 2 := by kernel_rfl
@[simp] theorem ag334 : isAggT Tryz.prog 334 = some true := by kernel_rfl
@[simp] theorem zc334 : zcells Tryz.prog 334 = some [(.int .u8 0, false), (.int .u8 0, false)] := by kernel_rfl
@[simp] theorem zt334 : zeroT Tryz.prog 334 = true := by kernel_rfl
@[simp] theorem fa334_0 (x : AVal) : afield Tryz.prog 334 x 0 = ashift 0 x := by kernel_rfl
@[simp] theorem fv334_0 (cs : List AVal) : afieldv Tryz.prog 334 (.agg cs) 0 = cs[0]? := by kernel_rfl
@[simp] theorem fa334_1 (x : AVal) : afield Tryz.prog 334 x 1 = ashift 1 x := by kernel_rfl
@[simp] theorem fv334_1 (cs : List AVal) : afieldv Tryz.prog 334 (.agg cs) 1 = cs[1]? := by kernel_rfl
@[simp] theorem bd334 (nl : Bool) (ps : List (Nat × AVal)) : abuild Tryz.prog nl 334 ps = afillL [(0, 1), (1, 1)] (if nl then [.int .u8 0, .int .u8 0] else [.int .u8 0, .int .u8 0]) ps := by cases nl <;> kernel_rfl
@[simp] theorem sz335 : sizeT Tryz.prog 335 = 2 := by kernel_rfl
@[simp] theorem ag335 : isAggT Tryz.prog 335 = some true := by kernel_rfl
@[simp] theorem zc335 : zcells Tryz.prog 335 = some [(.int .u8 0, false), (.int .u8 0, false)] := by kernel_rfl
@[simp] theorem zt335 : zeroT Tryz.prog 335 = true := by kernel_rfl
@[simp] theorem fa335_0 (x : AVal) : afield Tryz.prog 335 x 0 = ashift 0 x := by kernel_rfl
@[simp] theorem fv335_0 (cs : List AVal) : afieldv Tryz.prog 335 (.agg cs) 0 = cs[0]? := by kernel_rfl
@[simp] theorem fa335_1 (x : AVal) : afield Tryz.prog 335 x 1 = ashift 1 x := by kernel_rfl
@[simp] theorem fv335_1 (cs : List AVal) : afieldv Tryz.prog 335 (.agg cs) 1 = cs[1]? := by kernel_rfl
@[simp] theorem bd335 (nl : Bool) (ps : List (Nat × AVal)) : abuild Tryz.prog nl 335 ps = afillL [(0, 1), (1, 1)] (if nl then [.int .u8 0, .int .u8 0] else [.int .u8 0, .int .u8 0]) ps := by cases nl <;> kernel_rfl
@[simp] theorem sz336 : sizeT Tryz.prog 336 = 32 := by kernel_rfl
@[simp] theorem ag336 : isAggT Tryz.prog 336 = some true := by kernel_rfl
@[simp] theorem zc336 : zcells Tryz.prog 336 = some [(.int .u8 0, false), (.int .u8 0, false), (.int .u8 0, false), (.int .u8 0, false), (.int .u8 0, false), (.int .u8 0, false), (.int .u8 0, false), (.int .u8 0, false), (.int .u8 0, false), (.int .u8 0, false), (.int .u8 0, false), (.int .u8 0, false), (.int .u8 0, false), (.int .u8 0, false), (.int .u8 0, false), (.int .u8 0, false), (.int .u8 0, false), (.int .u8 0, false), (.int .u8 0, false), (.int .u8 0, false), (.int .u8 0, false), (.int .u8 0, false), (.int .u8 0, false), (.int .u8 0, false), (.int .u8 0, false), (.int .u8 0, false), (.int .u8 0, false), (.int .u8 0, false), (.int .u8 0, false), (.int .u8 0, false), (.int .u8 0, false), (.int .u8 0, false)] := by kernel_rfl
@[simp] theorem zt336 : zeroT Tryz.prog 336 = true := by kernel_rfl
@[simp] theorem sz337 : sizeT Tryz.prog 337 = 1 := by kernel_rfl
@[simp] theorem ag337 : isAggT Tryz.prog 337 = some false := by kernel_rfl
@[simp] theorem zc337 : zcells Tryz.prog 337 = some [(.nilf, false)] := by kernel_rfl
@[simp] theorem zt337 : zeroT Tryz.prog 337 = true := by kernel_rfl
@[simp] theorem sz338 : sizeT Tryz.prog 338 = 1 := by kernel_rfl
@[simp] theorem ag338 : isAggT Tryz.prog 338 = some false := by kernel_rfl
@[simp] theorem zc338 : zcells Tryz.prog 338 = some [(.nilp, false)] := by kernel_rfl
@[simp] theorem zt338 : zeroT Tryz.prog 338 = true := by kernel_rfl
@[simp] theorem sz339 : sizeT Tryz.prog 339 = 1 := by kernel_rfl
@[simp] theorem ag339 : isAggT Tryz.prog 339 = some false := by kernel_rfl
@[simp] theorem zc339 : zcells Tryz.prog 339 = some [(.nilf, false)] := by kernel_rfl
@[simp] theorem zt339 : zeroT Tryz.prog 339 = true := by kernel_rfl
@[simp] theorem sz340 : sizeT Tryz.prog 340 = 1 := by kernel_rfl
@[simp] theorem ag340 : isAggT Tryz.prog 340 = some false := by kernel_rfl
@[simp] theorem zc340 : zcells Tryz.prog 340 = some [(.nilf, false)] := by kernel_rfl
@[simp] theorem zt340 : zeroT Tryz.prog 340 = true := by kernel_rfl
@[simp] theorem sz341 : sizeT Tryz.prog 341 = 1 := by kernel_rfl
@[simp] theorem ag341 : isAggT Tryz.prog 341 = some false := by kernel_rfl
@[simp] theorem zc341 : zcells Tryz.prog 341 = some [(.nilf, false)] := by kernel_rfl
@[simp] theorem zt341 : zeroT Tryz.prog 341 = true := by kernel_rfl
@[simp] theorem sz342 : sizeT Tryz.prog 342 = 1 := by kernel_rfl
@[simp] theorem ag342 : isAggT Tryz.prog 342 = some false := by kernel_rfl
@[simp] theorem zc342 : zcells Tryz.prog 342 = some [(.nilf, false)] := by kernel_rfl
@[simp] theorem zt342 : zeroT Tryz.prog 342 = true := by kernel_rfl
@[simp] theorem sz343 : sizeT Tryz.prog 343 = 24 := by kernel_rfl
@[simp] theorem ag343 : isAggT Tryz.prog 343 = some true := by kernel_rfl
@[simp] theorem zc343 : zcells Tryz.prog 343 = some [(.int .u8 0, false), (.int .u8 0, false), (.int .u8 0, false), (.int .u8 0, false), (.int .u8 0, false), (.int .u8 0, false), (.int .u8 0, false), (.int .u8 0, false), (.int .u8 0, false), (.int .u8 0, false), (.int .u8 0, false), (.int .u8 0, false), (.int .u8 0, false), (.int .u8 0, false), (.int .u8 0, false), (.int .u8 0, false), (.int .u8 0, false), (.int .u8 0, false), (.int .u8 0, false), (.int .u8 0, false), (.int .u8 0, false), (.int .u8 0, false), (.int .u8 0, false), (.int .u8 0, false)] := by kernel_rfl
@[simp] theorem zt343 : zeroT Tryz.prog 343 = true := by kernel_rfl
@[simp] theorem sz344 : sizeT Tryz.prog 344 = 1 := by kernel_rfl
@[simp] theorem ag344 : isAggT Tryz.prog 344 = some false := by kernel_rfl
@[simp] theorem zc344 : zcells Tryz.prog 344 = some [(.nilf, false)] := by kernel_rfl
@[simp] theorem zt344 : zeroT Tryz.prog 344 = true := by kernel_rfl
@[simp] theorem sz346 : sizeT Tryz.prog 346 = 1 := by kernel_rfl
@[simp] theorem ag346 : isAggT Tryz.prog 346 = some false := by kernel_rfl
@[simp] theorem zc346 : zcells Tryz.prog 346 = some [(.nilf, false)] := by kernel_rfl
@[simp] theorem zt346 : zeroT Tryz.prog 346 = true := by kernel_rfl
@[simp] theorem sz348 : sizeT Tryz.prog 348 = 1 := by kernel_rfl
@[simp] theorem ag348 : isAggT Tryz.prog 348 = some false := by kernel_rfl
@[simp] theorem zc348 : zcells Tryz.prog 348 = some [(.nilf, false)] := by kernel_rfl
@[simp] theorem zt348 : zeroT Tryz.prog 348 = true := by kernel_rfl
@[simp] theorem sz349 : sizeT Tryz.prog 349 = 1 := by kernel_rfl
@[simp] theorem ag349 : isAggT Tryz.prog 349 = some false := by kernel_rfl
@[simp] theorem zc349 : zcells Tryz.prog 349 = some [(.int .i64 0, false)] := by kernel_rfl
@[simp] theorem zt349 : zeroT Tryz.prog 349 = true := by kernel_rfl
@[simp] theorem sz351 : sizeT Tryz.prog 351 = 1 := by kernel_rfl
@[simp] theorem ag351 : isAggT Tryz.prog 351 = some false := by kernel_rfl
@[simp] theorem zc351 : zcells Tryz.prog 351 = some [(.nilf, false)] := by kernel_rfl
@[simp] theorem zt351 : zeroT Tryz.prog 351 = true := by kernel_rfl
@[simp] theorem sz352 : sizeT Tryz.prog 352 = 1 := by kernel_rfl
@[simp] theorem ag352 : isAggT Tryz.prog 352 = some false := by kernel_rfl
@[simp] theorem zc352 : zcells Tryz.prog 352 = some [(.nilp, false)] := by kernel_rfl
@[simp] theorem zt352 : zeroT Tryz.prog 352 = true := by kernel_rfl
@[simp] theorem sz353 : sizeT Tryz.prog 353 = 1 := by kernel_rfl
@[simp] theorem ag353 : isAggT Tryz.prog 353 = some false := by kernel_rfl
@[simp] theorem zc353 : zcells Tryz.prog 353 = some [(.nilf, false)] := by kernel_rfl
@[simp] theorem zt353 : zeroT Tryz.prog 353 = true := by kernel_rfl
@[simp] theorem sz354 : sizeT Tryz.prog 354 = 1 := by kernel_rfl
@[simp] theorem ag354 : isAggT Tryz.prog 354 = some false := by kernel_rfl
@[simp] theorem zc354 : zcells Tryz.prog 354 = some [(.nilf, false)] := by kernel_rfl
@[simp] theorem zt354 : zeroT Tryz.prog 354 = true := by kernel_rfl
@[simp] theorem sz355 : sizeT Tryz.prog 355 = 1 := by kernel_rfl
@[simp] theorem ag355 : isAggT Tryz.prog 355 = some false := by kernel_rfl
@[simp] theorem zc355 : zcells Tryz.prog 355 = some [(.nilf, false)] := by kernel_rfl
@[simp] theorem zt355 : zeroT Tryz.prog 355 = true := by kernel_rfl
@[simp] theorem sz356 : sizeT Tryz.prog 356 = 1 := by kernel_rfl
@[simp] theorem ag356 : isAggT Tryz.prog 356 = some false := by kernel_rfl
@[simp] theorem zc356 : zcells Tryz.prog 356 = some [(.nilf, false)] := by kernel_rfl
@[simp] theorem zt356 : zeroT Tryz.prog 356 = true := by kernel_rfl
@[simp] theorem sz357 : sizeT Tryz.prog 357 = 1 := by kernel_rfl
@[simp] theorem ag357 : isAggT Tryz.prog 357 = some false := by kernel_rfl
@[simp] theorem zc357 : zcells Tryz.prog 357 = some [(.nilf, false)] := by kernel_rfl
@[simp] theorem zt357 : zeroT Tryz.prog 357 = true := by kernel_rfl
@[simp] theorem sz358 : sizeT Tryz.prog 358 = 20 := by kernel_rfl
@[simp] theorem ag358 : isAggT Tryz.prog 358 = some true := by kernel_rfl
@[simp] theorem zc358 : zcells Tryz.prog 358 = some [(.int .u64 0, false), (.int .u64 0, false), (.int .u64 0, false), (.int .u64 0, false), (.int .u64 0, false), (.int .u64 0, false), (.int .u64 0, false), (.int .u64 0, false), (.int .u64 0, false), (.int .u64 0, false), (.int .u64 0, false), (.int .u64 0, false), (.int .u64 0, false), (.int .u64 0, false), (.int .u64 0, false), (.int .u64 0, false), (.int .u64 0, false), (.int .u64 0, false), (.int .u64 0, false), (.int .u64 0, false)] := by kernel_rfl
@[simp] theorem zt358 : zeroT Tryz.prog 358 = true := by kernel_rfl
@[simp] theorem sz361 : sizeT Tryz.prog 361 = 1 := by kernel_rfl
@[simp] theorem ag361 : isAggT Tryz.prog 361 = some false := by kernel_rfl
@[simp] theorem zc361 : zcells Tryz.prog 361 = some [(.nilf, false)] := by kernel_rfl
@[simp] theorem zt361 : zeroT Tryz.prog 361 = true := by kernel_rfl
@[simp] theorem sz362 : sizeT Tryz.prog 362 = 3 := by kernel_rfl
@[simp] theorem ag362 : isAggT Tryz.prog 362 = some true := by kernel_rfl
@[simp] theorem zt362 : zeroT Tryz.prog 362 = true := by kernel_rfl
@[simp] theorem fa362_0 (x : AVal) : afield Tryz.prog 362 x 0 = ashift 0 x := by kernel_rfl
@[simp] theorem fv362_0 (cs : List AVal) : afieldv Tryz.prog 362 (.agg cs) 0 = cs[0]? := by kernel_rfl
@[simp] theorem fa362_1 (x : AVal) : afield Tryz.prog 362 x 1 = ashift 1 x := by kernel_rfl
@[simp] theorem fv362_1 (cs : List AVal) : afieldv Tryz.prog 362 (.agg cs) 1 = cs[1]? := by kernel_rfl
@[simp] theorem fa362_2 (x : AVal) : afield Tryz.prog 362 x 2 = ashift 2 x := by kernel_rfl
@[simp] theorem sz363 : sizeT Tryz.prog 363 = 3 := by kernel_rfl
@[simp] theorem ag363 : isAggT Tryz.prog 363 = some true := by kernel_rfl
@[simp] theorem zt363 : zeroT Tryz.prog 363 = true := by kernel_rfl
@[simp] theorem fa363_0 (x : AVal) : afield Tryz.prog 363 x 0 = ashift 0 x := by kernel_rfl
@[simp] theorem fv363_0 (cs : List AVal) : afieldv Tryz.prog 363 (.agg cs) 0 = cs[0]? := by kernel_rfl
@[simp] theorem fa363_1 (x : AVal) : afield Tryz.prog 363 x 1 = ashift 1 x := by kernel_rfl
@[simp] theorem fv363_1 (cs : List AVal) : afieldv Tryz.prog 363 (.agg cs) 1 = cs[1]? := by kernel_rfl
@[simp] theorem fa363_2 (x : AVal) : afield Tryz.prog 363 x 2 = ashift 2 x := by kernel_rfl
@[simp] theorem sz364 : sizeT Tryz.prog 364 = 1 := by kernel_rfl
@[simp] theorem ag364 : isAggT Tryz.prog 364 = some false := by kernel_rfl
@[simp] theorem zc364 : zcells Tryz.prog 364 = some [(.nilf, false)] := by kernel_rfl
@[simp] theorem zt364 : zeroT Tryz.prog 364 = true := by kernel_rfl
@[simp] theorem sz365 : sizeT Tryz.prog 365 = 1 := by kernel_rfl
@[simp] theorem ag365 : isAggT Tryz.prog 365 = some false := by kernel_rfl
@[simp] theorem zc365 : zcells Tryz.prog 365 = some [(.nilf, false)] := by kernel_rfl
@[simp] theorem zt365 : zeroT Tryz.prog 365 = true := by kernel_rfl
@[simp] theorem sz366 : sizeT Tryz.prog 366 = 1 := by kernel_rfl
@[simp] theorem ag366 : isAggT Tryz.prog 366 = some false := by kernel_rfl
@[simp] theorem zc366 : zcells Tryz.prog 366 = some [(.nilp, false)] := by kernel_rfl
@[simp] theorem zt366 : zeroT Tryz.prog 366 = true := by kernel_rfl
@[simp] theorem sz367 : sizeT Tryz.prog 367 = 1 := by kernel_rfl
@[simp] theorem ag367 : isAggT Tryz.prog 367 = some true := by kernel_rfl
@[simp] theorem zc367 : zcells Tryz.prog 367 = some [(.str ByteArray.empty, false)] := by kernel_rfl
@[simp] theorem zt367 : zeroT Tryz.prog 367 = true := by kernel_rfl
@[simp] theorem fa367_0 (x : AVal) : afield Tryz.prog 367 x 0 = ashift 0 x := by kernel_rfl
@[simp] theorem fv367_0 (cs : List AVal) : afieldv Tryz.prog 367 (.agg cs) 0 = cs[0]? := by kernel_rfl
@[simp] theorem bd367 (nl : Bool) (ps : List (Nat × AVal)) : abuild Tryz.prog nl 367 ps = afillL [(0, 1)] (if nl then [.str ByteArray.empty] else [.str ByteArray.empty]) ps := by cases nl <;> kernel_rfl
@[simp] theorem sz368 : sizeT Tryz.prog 368 = 1 := by kernel_rfl
@[simp] theorem ag368 : isAggT Tryz.prog 368 = some true := by kernel_rfl
@[simp] theorem zc368 : zcells Tryz.prog 368 = some [(.str ByteArray.empty, false)] := by kernel_rfl
@[simp] theorem zt368 : zeroT Tryz.prog 368 = true := by kernel_rfl
@[simp] theorem fa368_0 (x : AVal) : afield Tryz.prog 368 x 0 = ashift 0 x := by kernel_rfl
@[simp] theorem fv368_0 (cs : List AVal) : afieldv Tryz.prog 368 (.agg cs) 0 = cs[0]? := by kernel_rfl
@[simp] theorem bd368 (nl : Bool) (ps : List (Nat × AVal)) : abuild Tryz.prog nl 368 ps = afillL [(0, 1)] (if nl then [.str ByteArray.empty] else [.str ByteArray.empty]) ps := by cases nl <;> kernel_rfl
@[simp] theorem sz369 : sizeT Tryz.prog 369 = 32 := by kernel_rfl
@[simp] theorem ag369 : isAggT Tryz.prog 369 = some true := by kernel_rfl
@[simp] theorem zc369 : zcells Tryz.prog 369 = some [(.int .u8 0, false), (.int .u8 0, false), (.int .u8 0, false), (.int .u8 0, false), (.int .u8 0, false), (.int .u8 0, false), (.int .u8 0, false), (.int .u8 0, false), (.int .u8 0, false), (.int .u8 0, false), (.int .u8 0, false), (.int .u8 0, false), (.int .u8 0, false), (.int .u8 0, false), (.int .u8 0, false), (.int .u8 0, false), (.int .u8 0, false), (.int .u8 0, false), (.int .u8 0, false), (.int .u8 0, false), (.int .u8 0, false), (.int .u8 0, false), (.int .u8 0, false), (.int .u8 0, false), (.int .u8 0, false), (.int .u8 0, false), (.int .u8 0, false), (.int .u8 0, false), (.int .u8 0, false), (.int .u8 0, false), (.int .u8 0, false), (.int .u8 0, false)] := by kernel_rfl
@[simp] theorem zt369 : zeroT Tryz.prog 369 = true := by kernel_rfl
@[simp] theorem sz371 : sizeT Tryz.prog 371 = 4 := by kernel_rfl
@[simp] theorem ag371 : isAggT Tryz.prog 371 = some true := by kernel_rfl
@[simp] theorem zt371 : zeroT Tryz.prog 371 = true := by kernel_rfl
@[simp] theorem sz372 : sizeT Tryz.prog 372 = 4 := by kernel_rfl
@[simp] theorem ag372 : isAggT Tryz.prog 372 = some true := by kernel_rfl
@[simp] theorem zt372 : zeroT Tryz.prog 372 = true := by kernel_rfl
@[simp] theorem sz373 : sizeT Tryz.prog 373 = 0 := by kernel_rfl
@[simp] theorem ag373 : isAggT Tryz.prog 373 = some true := by kernel_rfl
@[simp] theorem zc373 : zcells Tryz.prog 373 = some [] := by kernel_rfl
@[simp] theorem zt373 : zeroT Tryz.prog 373 = true := by kernel_rfl
@[simp] theorem sz374 : sizeT Tryz.prog 374 = 0 := by kernel_rfl
@[simp] theorem ag374 : isAggT Tryz.prog 374 = some true := by kernel_rfl
@[simp] theorem zt374 : zeroT Tryz.prog 374 = true := by kernel_rfl
@[simp] theorem sz375 : sizeT Tryz.prog 375 = 0 := by kernel_rfl
@[simp] theorem ag375 : isAggT Tryz.prog 375 = some true := by kernel_rfl
@[simp] theorem zt375 : zeroT Tryz.prog 375 = true := by kernel_rfl
@[simp] theorem sz376 : sizeT Tryz.prog 376 = 1 := by kernel_rfl
@[simp] theorem ag376 : isAggT Tryz.prog 376 = some false := by kernel_rfl
@[simp] theorem zc376 : zcells Tryz.prog 376 = some [(.int .u8 0, false)] := by kernel_rfl
@[simp] theorem zt376 : zeroT Tryz.prog 376 = true := by kernel_rfl
@[simp] theorem sz377 : sizeT Tryz.prog 377 = 1 := by kernel_rfl
@[simp] theorem ag377 : isAggT Tryz.prog 377 = some false := by kernel_rfl
@[simp] theorem zc377 : zcells Tryz.prog 377 = some [(.int .u8 0, false)] := by kernel_rfl
@[simp] theorem zt377 : zeroT Tryz.prog 377 = true := by kernel_rfl
@[simp] theorem sz378 : sizeT Tryz.prog 378 = 1 := by kernel_rfl
@[simp] theorem ag378 : isAggT Tryz.prog 378 = some false := by kernel_rfl
@[simp] theorem zc378 : zcells Tryz.prog 378 = some [(.nilf, false)] := by kernel_rfl
@[simp] theorem zt378 : zeroT Tryz.prog 378 = true := by kernel_rfl
@[simp] theorem sz379 : sizeT Tryz.prog 379 = 1 := by kernel_rfl
@[simp] theorem ag379 : isAggT Tryz.prog 379 = some false := by kernel_rfl
@[simp] theorem zc379 : zcells Tryz.prog 379 = some [(.int .i32 0, false)] := by kernel_rfl
@[simp] theorem zt379 : zeroT Tryz.prog 379 = true := by kernel_rfl
@[simp] theorem sz380 : sizeT Tryz.prog 380 = 1 := by kernel_rfl
@[simp] theorem ag380 : isAggT Tryz.prog 380 = some false := by kernel_rfl
@[simp] theorem zc380 : zcells Tryz.prog 380 = some [(.int .i32 0, false)] := by kernel_rfl
@[simp] theorem zt380 : zeroT Tryz.prog 380 = true := by kernel_rfl
@[simp] theorem sz381 : sizeT Tryz.prog 381 = 11 := by kernel_rfl
@[simp] theorem ag381 : isAggT Tryz.prog 381 = some true := by kernel_rfl
@[simp] theorem zc381 : zcells Tryz.prog 381 = some [(.int .u64 0, false), (.int .u64 0, false), (.int .u32 0, false), (.int .u8 0, false), (.int .u8 0, false), (.int .u8 0, false), (.int .u8 0, false), (.nilf, false), (.nilp, false), (.int .i32 0, false), (.int .i32 0, false)] := by kernel_rfl
@[simp] theorem zt381 : zeroT Tryz.prog 381 = true := by kernel_rfl
@[simp] theorem fa381_0 (x : AVal) : afield Tryz.prog 381 x 0 = ashift 0 x := by kernel_rfl
@[simp] theorem fv381_0 (cs : List AVal) : afieldv Tryz.prog 381 (.agg cs) 0 = cs[0]? := by kernel_rfl
@[simp] theorem fa381_1 (x : AVal) : afield Tryz.prog 381 x 1 = ashift 1 x := by kernel_rfl
@[simp] theorem fv381_1 (cs : List AVal) : afieldv Tryz.prog 381 (.agg cs) 1 = cs[1]? := by kernel_rfl
@[simp] theorem fa381_2 (x : AVal) : afield Tryz.prog 381 x 2 = ashift 2 x := by kernel_rfl
@[simp] theorem fv381_2 (cs : List AVal) : afieldv Tryz.prog 381 (.agg cs) 2 = cs[2]? := by kernel_rfl
@[simp] theorem fa381_3 (x : AVal) : afield Tryz.prog 381 x 3 = ashift 3 x := by kernel_rfl
@[simp] theorem fv381_3 (cs : List AVal) : afieldv Tryz.prog 381 (.agg cs) 3 = cs[3]? := by kernel_rfl
@[simp] theorem fa381_4 (x : AVal) : afield Tryz.prog 381 x 4 = ashift 4 x := by kernel_rfl
@[simp] theorem fv381_4 (cs : List AVal) : afieldv Tryz.prog 381 (.agg cs) 4 = cs[4]? := by kernel_rfl
@[simp] theorem fa381_5 (x : AVal) : afield Tryz.prog 381 x 5 = ashift 5 x := by kernel_rfl
@[simp] theorem fv381_5 (cs : List AVal) : afieldv Tryz.prog 381 (.agg cs) 5 = cs[5]? := by kernel_rfl
@[simp] theorem fa381_6 (x : AVal) : afield Tryz.prog 381 x 6 = ashift 6 x := by kernel_rfl
@[simp] theorem fv381_6 (cs : List AVal) : afieldv Tryz.prog 381 (.agg cs) 6 = cs[6]? := by kernel_rfl
@[simp] theorem fa381_7 (x : AVal) : afield Tryz.prog 381 x 7 = ashift 7 x := by kernel_rfl
@[simp] theorem fv381_7 (cs : List AVal) : afieldv Tryz.prog 381 (.agg cs) 7 = cs[7]? := by kernel_rfl
@[simp] theorem fa381_8 (x : AVal) : afield Tryz.prog 381 x 8 = ashift 8 x := by kernel_rfl
@[simp] theorem fv381_8 (cs : List AVal) : afieldv Tryz.prog 381 (.agg cs) 8 = cs[8]? := by kernel_rfl
@[simp] theorem fa381_9 (x : AVal) : afield Tryz.prog 381 x 9 = ashift 9 x := by kernel_rfl
@[simp] theorem fv381_9 (cs : List AVal) : afieldv Tryz.prog 381 (.agg cs) 9 = cs[9]? := by kernel_rfl
@[simp] theorem fa381_10 (x : AVal) : afield Tryz.prog 381 x 10 = ashift 10 x := by kernel_rfl
@[simp] theorem fv381_10 (cs : List AVal) : afieldv Tryz.prog 381 (.agg cs) 10 = cs[10]? := by kernel_rfl
@[simp] theorem bd381 (nl : Bool) (ps : List (Nat × AVal)) : abuild Tryz.prog nl 381 ps = afillL [(0, 1), (1, 1), (2, 1), (3, 1), (4, 1), (5, 1), (6, 1), (7, 1), (8, 1), (9, 1), (10, 1)] (if nl then [.int .u64 0, .int .u64 0, .int .u32 0, .int .u8 0, .int .u8 0, .int .u8 0, .int .u8 0, .nilf, .nilp, .int .i32 0, .int .i32 0] else [.int .u64 0, .int .u64 0, .int .u32 0, .int .u8 0, .int .u8 0, .int .u8 0, .int .u8 0, .nilf, .nilp, .int .i32 0, .int .i32 0]) ps := by cases nl <;> kernel_rfl
@[simp] theorem sz382 : sizeT Tryz.prog 382 = 11 := by kernel_rfl
@[simp] theorem ag382 : isAggT Tryz.prog 382 = some true := by kernel_rfl
@[simp] theorem zc382 : zcells Tryz.prog 382 = some [(.int .u64 0, false), (.int .u64 0, false), (.int .u32 0, false), (.int .u8 0, false), (.int .u8 0, false), (.int .u8 0, false), (.int .u8 0, false), (.nilf, false), (.nilp, false), (.int .i32 0, false), (.int .i32 0, false)] := by kernel_rfl
@[simp] theorem zt382 : zeroT Tryz.prog 382 = true := by kernel_rfl
@[simp] theorem fa382_0 (x : AVal) : afield Tryz.prog 382 x 0 = ashift 0 x := by kernel_rfl
@[simp] theorem fv382_0 (cs : List AVal) : afieldv Tryz.prog 382 (.agg cs) 0 = cs[0]? := by kernel_rfl
@[simp] theorem fa382_1 (x : AVal) : afield Tryz.prog 382 x 1 = ashift 1 x := by kernel_rfl
@[simp] theorem fv382_1 (cs : List AVal) : afieldv Tryz.prog 382 (.agg cs) 1 = cs[1]? := by kernel_rfl
@[simp] theorem fa382_2 (x : AVal) : afield Tryz.prog 382 x 2 = ashift 2 x := by kernel_rfl
@[simp] theorem fv382_2 (cs : List AVal) : afieldv Tryz.prog 382 (.agg cs) 2 = cs[2]? := by kernel_rfl
@[simp] theorem fa382_3 (x : AVal) : afield Tryz.prog 382 x 3 = ashift 3 x := by kernel_rfl
@[simp] theorem fv382_3 (cs : List AVal) : afieldv Tryz.prog 382 (.agg cs) 3 = cs[3]? := by kernel_rfl
@[simp] theorem fa382_4 (x : AVal) : afield Tryz.prog 382 x 4 = ashift 4 x := by kernel_rfl
@[simp] theorem fv382_4 (cs : List AVal) : afieldv Tryz.prog 382 (.agg cs) 4 = cs[4]? := by kernel_rfl
@[simp] theorem fa382_5 (x : AVal) : afield Tryz.prog 382 x 5 = ashift 5 x := by kernel_rfl
@[simp] theorem fv382_5 (cs : List AVal) : afieldv Tryz.prog 382 (.agg cs) 5 = cs[5]? := by kernel_rfl
@[simp] theorem fa382_6 (x : AVal) : afield Tryz.prog 382 x 6 = ashift 6 x := by kernel_rfl
@[simp] theorem fv382_6 (cs : List AVal) : afieldv Tryz.prog 382 (.agg cs) 6 = cs[6]? := by kernel_rfl
@[simp] theorem fa382_7 (x : AVal) : afield Tryz.prog 382 x 7 = ashift 7 x := by kernel_rfl
@[simp] theorem fv382_7 (cs : List AVal) : afieldv Tryz.prog 382 (.agg cs) 7 = cs[7]? := by kernel_rfl
@[simp] theorem fa382_8 (x : AVal) : afield Tryz.prog 382 x 8 = ashift 8 x := by kernel_rfl
@[simp] theorem fv382_8 (cs : List AVal) : afieldv Tryz.prog 382 (.agg cs) 8 = cs[8]? := by kernel_rfl
@[simp] theorem fa382_9 (x : AVal) : afield Tryz.prog 382 x 9 = ashift 9 x := by kernel_rfl
@[simp] theorem fv382_9 (cs : List AVal) : afieldv Tryz.prog 382 (.agg cs) 9 = cs[9]? := by kernel_rfl
@[simp] theorem fa382_10 (x : AVal) : afield Tryz.prog 382 x 10 = ashift 10 x := by kernel_rfl
@[simp] theorem fv382_10 (cs : List AVal) : afieldv Tryz.prog 382 (.agg cs) 10 = cs[10]? := by kernel_rfl
@[simp] theorem bd382 (nl : Bool) (ps : List (Nat × AVal)) : abuild Tryz.prog nl 382 ps = afillL [(0, 1), (1, 1), (2, 1), (3, 1), (4, 1), (5, 1), (6, 1), (7, 1), (8, 1), (9, 1), (10, 1)] (if nl then [.int .u64 0, .int .u64 0, .int .u32 0, .int .u8 0, .int .u8 0, .int .u8 0, .int .u8 0, .nilf, .nilp, .int .i32 0, .int .i32 0] else [.int .u64 0, .int .u64 0, .int .u32 0, .int .u8 0, .int .u8 0, .int .u8 0, .int .u8 0, .nilf, .nilp, .int .i32 0, .int .i32 0]) ps := by cases nl <;> kernel_rfl
end Go.Proofs.YtleimfinniclgaaGreatDoor.M
/- append: in place, or in a new block. -/
namespace Go.Proofs.YtleimfinniclgaaGreatDoor.M
open Go.RowKit
set_option linter.unusedVariables false
set_option linter.unusedSimpArgs false

section
variable {P : Program}
theorem add_at (b o i : Nat) : (⟨b, o, none⟩ : Addr).add i = ⟨b, o + i, none⟩ := by unfold Addr.add; split <;> simp_all
theorem run_firstCells (w : World) (sz n c : Nat) (b o : Nat) (vs : List Value) (hl : vs.length = n * sz) (h : ∀ (i : Nat) v, vs[i]? = some v → w.cell? ⟨b, o + i, none⟩ = some v) :
    (Builtin.firstCells sz n (.slice (some ⟨b, o, none⟩) n c)).run P w = .ok vs.toArray w := by
  unfold Builtin.firstCells
  rw [← hl]
  exact run_loadCells_list w _ vs fun j v hj => by rw [add_at]; exact h j v hj
theorem run_firstCells' (w : World) (sz n c : Nat) (A : Option Addr) (vs : List Value) (hl : vs.length = n * sz) (h : ∀ (i : Nat) v, vs[i]? = some v → ∃ b o, A = some ⟨b, o, none⟩ ∧ w.cell? ⟨b, o + i, none⟩ = some v) :
    (Builtin.firstCells sz n (.slice A n c)).run P w = .ok vs.toArray w ∨ (vs = [] ∧ A ≠ none) := by
  cases vs with
  | nil =>
    cases A with
    | none => left; rfl
    | some a => right; exact ⟨rfl, by simp⟩
  | cons v r =>
    obtain ⟨b, o, rfl, _⟩ := h 0 v rfl
    left
    refine run_firstCells w sz n c b o (v :: r) hl fun i u hu => ?_
    obtain ⟨b', o', e, h2⟩ := h i u hu
    injection e with e; injection e with e1 e2
    subst e1 e2
    exact h2
theorem run_first (w : World) (sz n c : Nat) (A : Option Addr) (vs : List Value) (hl : vs.length = n * sz) (h : ∀ (i : Nat) v, vs[i]? = some v → ∃ b o, A = some ⟨b, o, none⟩ ∧ w.cell? ⟨b, o + i, none⟩ = some v) :
    (Builtin.firstCells sz n (.slice A n c)).run P w = .ok vs.toArray w := by
  rcases run_firstCells' (P := P) w sz n c A vs hl h with h1 | ⟨rfl, h2⟩
  · exact h1
  · cases A with
    | none => exact absurd rfl h2
    | some a =>
      unfold Builtin.firstCells
      have hz : n * sz = 0 := by simpa using hl.symm
      rw [hz]
      rfl
/-- append that fits. -/
theorem run_append_in (w : World) (t t2 ty e : TypeId) (i : TypeInfo) (d2 : TypeDesc) (ht : P.underlying t = some (.slice e)) (ht2 : P.underlying t2 = some d2) (hd2 : ∀ k, d2 ≠ .int k) (hi : P.info? e = some i)
    (A : Option Addr) (n c m : Nat) (x : Value) (ys : List Value) (hlen : (Builtin.lenOf x).run P w = .ok m w) (hx : (Builtin.firstCells i.size m x).run P w = .ok ys.toArray w) (hfit : n + m ≤ c)
    (w' : World) (hst : ∀ a, A = some a → (storeCells (a.add (n * i.size)) ys).run P w = .ok () w') (hno : A = none → w' = w) :
    (Builtin.append_ #[t, t2] ty #[.slice A n c, x]).run P w = .ok (.slice A (n + m) c) w' := by
  have hz : (match d2 with | .int _ => true | _ => false) = false := by
    cases d2 <;> first | rfl | exact absurd rfl (hd2 _)
  cases A with
  | none =>
    rw [hno rfl]
    simp [Builtin.append_, run_underlying ht, run_underlying ht2, sizeOf, typeInfo, hi, hz, hlen, hx, hfit]
  | some a =>
    have := hst a rfl
    simp [Builtin.append_, run_underlying ht, run_underlying ht2, sizeOf, typeInfo, hi, hz, hlen, hx, hfit, this]
/-- append that does not fit. -/
theorem run_append_out (w : World) (t t2 ty e : TypeId) (i : TypeInfo) (z : Value) (d2 : TypeDesc) (ht : P.underlying t = some (.slice e)) (ht2 : P.underlying t2 = some d2) (hd2 : ∀ k, d2 ≠ .int k) (hi : P.info? e = some i) (hz : i.zero = some z)
    (A : Option Addr) (n c m : Nat) (x : Value) (xs ys : List Value) (hlen : (Builtin.lenOf x).run P w = .ok m w) (hfit : ¬ n + m ≤ c)
    (hx : (Builtin.firstCells i.size m x).run P w.drew = .ok ys.toArray w.drew) (hs : (Builtin.firstCells i.size n (.slice A n c)).run P w.drew = .ok xs.toArray w.drew) (hb : (n + m) * i.bytes ≤ 140737488355328) (hbz : i.bytes ≠ 0) :
    (Builtin.append_ #[t, t2] ty #[.slice A n c, x]).run P w = .ok (.slice (some ⟨w.heap.size, 0, none⟩) (n + m) (grownCap w (n + m) c e)) (w.drew.alloc (.cells (xs.toArray ++ ys.toArray ++ Builtin.zeroCells z.cells (grownCap w (n + m) c e - (n + m))) e)) := by
  have hzz : (match d2 with | .int _ => true | _ => false) = false := by
    cases d2 <;> first | rfl | exact absurd rfl (hd2 _)
  have h48 := growslice_fits (bytes := i.bytes) (show c < n + m by omega) hb
  have h48' : ¬ (281474976710656 < Builtin.nextslicecap (n + m) c * i.bytes) := by omega
  simp [Builtin.append_, run_underlying ht, run_underlying ht2, sizeOf, typeInfo, zeroValue, hi, hz, hzz, hlen, hfit, h48', Question.forced, hx, hs, hbz, newRow, grownCap]
  congr 2
  apply Array.ext'
  simp [List.append_assoc]
end

section
variable {C : Cx} {B : Nat} {F : Nat → Nat → Prop} {w0 : World} {hp : Heap} {tm : List Cell} {ct : Array Value}
def Cx.fill (C : Cx) (b lo : Nat) (vs : List Value) : Cx := { ι := C.ι, I := fun b' o => C.I b' o ∨ (b' = b ∧ lo ≤ o ∧ o < lo + vs.length), nx := C.nx, w := C.w.setCells b lo vs }
/-- A slot's free room is written, and stays from now on. -/
theorem WRel.fill (h : WRel C B F w0 hp tm ct) {s : Nat} {v : AVal} {cv : Value} (hs : tm[s]? = some (v, true)) (hcs : ct[s]? = some cv) (b lo : Nat) (vs : List Value) (hne : vs ≠ []) (hin : ∀ o, lo ≤ o → o < lo + vs.length → Tail v cv b o) :
    C.Le (C.fill b lo vs) ∧ WRel (C.fill b lo vs) B F w0 hp (tm.set s (v, false)) ct := by
  have ow : Owned C hp tm ct (0, s) v cv := ⟨hs, hcs⟩
  have ok := h.own _ _ _ ow
  have hpos : 0 < vs.length := List.length_pos_iff.2 hne
  obtain ⟨hB, _, _, hlive, _, _⟩ := ok.cells b lo (hin lo (Nat.le_refl _) (by omega))
  have hout : ∀ b' o, (b' = b → o < lo ∨ lo + vs.length ≤ o) → (C.fill b lo vs).w.cell? ⟨b', o, none⟩ = C.w.cell? ⟨b', o, none⟩ := fun b' o hbo =>
    World.cell?_setCells_out b vs lo C.w ⟨b', o, none⟩ fun e _ => hbo e
  have hnot : ∀ b' o, ¬ Tail v cv b' o → (b' = b → o < lo ∨ lo + vs.length ≤ o) := fun b' o hn e => by
    subst e
    rcases Nat.lt_or_ge o lo with h1 | h1
    · exact .inl h1
    · rcases Nat.lt_or_ge o (lo + vs.length) with h2 | h2
      · exact absurd (hin o h1 h2) hn
      · exact .inr h2
  have hfr : ∀ b' o, (C.fill b lo vs).w.frozen? ⟨b', o, none⟩ = C.w.frozen? ⟨b', o, none⟩ := fun b' o => World.frozen?_setCells b vs lo C.w _
  have hIT : ∀ b' o, C.I b' o → ¬ Tail v cv b' o := fun b' o hI ht => (ok.cells b' o ht).2.1 hI
  have le : C.Le (C.fill b lo vs) := ⟨Nat.le_refl _, fun _ _ => rfl, fun _ _ h => .inl h, fun b' o hI => hout b' o (hnot b' o (hIT b' o hI)), fun b' o u hu => cell_setCells_ex _ _ _ _ hu⟩
  have hblk : ∀ id, (hget hp id).isSome = true → (C.fill b lo vs).w.heap[C.ι id]? = C.w.heap[C.ι id]? := fun id hid => setCells_other b _ (fun e => hlive id hid e.symm) _ _ _
  have hown : ∀ k v' cv', Owned (C.fill b lo vs) hp (tm.set s (v, false)) ct k v' cv' → k ≠ (0, s) ∧ Owned C hp tm ct k v' cv' := by
    intro k v' cv' ho
    obtain ⟨i, t⟩ := k
    cases i with
    | zero =>
      obtain ⟨h1, h2⟩ := ho
      rw [List.getElem?_set] at h1
      by_cases e : s = t
      · subst e
        rw [if_pos rfl] at h1
        split at h1 <;> simp at h1
      · rw [if_neg e] at h1
        exact ⟨by simp; exact fun q => e q.symm, h1, h2⟩
    | succ j =>
      obtain ⟨cs', vs', ty', h1, h2, h3, h4⟩ := ho
      have hj : (hget hp j).isSome = true := by rw [h1]; rfl
      have h3' : (C.fill b lo vs).w.heap[C.ι j]? = some (.cells vs' ty' (0, 0)) := h3
      rw [hblk j hj] at h3'
      exact ⟨by simp, cs', vs', ty', h1, h2, h3', h4⟩
  refine ⟨le, ⟨below_setCells b hB vs lo _ h.heap.below, h.heap.base, h.heap.ids, fun id cs hid => ?_, h.heap.inj, fun i hi => ?_, fun b' o hI => ?_, fun b' o hF => ?_, fun id es hg => (h.heap.mapb id es hg).mono le (hblk id (by rw [hg]; rfl))⟩, by simp [h.size], fun t c ht => ?_, fun k v' cv' ho => ?_, fun k1 k2 v1 c1 v2 c2 h1 h2 hne => ?_⟩
  · obtain ⟨vs', ty', q1, q2, q3⟩ := h.heap.blk id cs hid
    refine ⟨vs', ty', (hblk id (by rw [hid]; rfl)).trans q1, q2, fun i c hi => ?_⟩
    obtain ⟨r1, u, r2, r3⟩ := q3 i c hi
    exact ⟨r1, u, r2, r3.mono le⟩
  · obtain ⟨q1, q2, q3⟩ := h.heap.out i hi
    refine ⟨q1, by show _ < (C.w.setCells b lo vs).heap.size; rw [setCells_size]; exact q2, fun o => ⟨fun hI => ?_, (q3 o).2⟩⟩
    rcases hI with hI | ⟨e, _⟩
    · exact (q3 o).1 hI
    · exact hlive i hi e.symm
  · rcases hI with hI | ⟨rfl, h1, h2⟩
    · obtain ⟨u, hu⟩ := h.heap.imm b' o hI
      exact ⟨u, (le.cell b' o hI).trans hu⟩
    · have := World.cell?_setCells_in b' vs lo C.w (fun j hj => by
        obtain ⟨_, _, _, _, ⟨u, hu⟩, _⟩ := ok.cells b' (lo + j) (hin _ (by omega) (by omega))
        rw [hu]; rfl) (o - lo) (by omega)
      rw [show lo + (o - lo) = o by omega] at this
      exact ⟨_, this⟩
  · obtain ⟨⟨u, hu⟩, q1, q2⟩ := h.heap.far b' o hF
    have hn : ¬ Tail v cv b' o := fun ht => (ok.cells b' o ht).2.2.1 hF
    refine ⟨⟨u, (hout b' o (hnot b' o hn)).trans hu⟩, (hfr b' o).trans q1, fun hI => ?_⟩
    rcases hI with hI | ⟨e, h1, h2⟩
    · exact q2 hI
    · subst e; exact hn (hin o h1 h2)
  · rw [List.getElem?_set] at ht
    by_cases e : s = t
    · subst e
      rw [if_pos rfl] at ht
      split at ht
      · injection ht with ht; subst ht
        obtain ⟨u, r1, r2⟩ := h.tmp s _ hs
        exact ⟨u, r1, r2.mono le⟩
      · cases ht
    · rw [if_neg e] at ht
      obtain ⟨u, r1, r2⟩ := h.tmp t c ht
      exact ⟨u, r1, r2.mono le⟩
  · obtain ⟨q1, q2⟩ := hown k v' cv' ho
    have q := h.own k v' cv' q2
    refine ⟨q.form, fun b' o ht => ?_⟩
    obtain ⟨a1, a2, a3, a4, ⟨u, a5⟩, a6⟩ := q.cells b' o ht
    have hn : ¬ Tail v cv b' o := h.sep _ _ _ _ _ _ q2 ow q1 b' o ht
    refine ⟨a1, fun hI => ?_, a3, a4, ⟨u, (hout b' o (hnot b' o hn)).trans a5⟩, (hfr b' o).trans a6⟩
    rcases hI with hI | ⟨e, h1, h2⟩
    · exact a2 hI
    · subst e; exact hn (hin o h1 h2)
  · exact h.sep k1 k2 v1 c1 v2 c2 (hown _ _ _ h1).2 (hown _ _ _ h2).2 hne
end
end Go.Proofs.YtleimfinniclgaaGreatDoor.M
/- append of lists. -/
namespace Go.Proofs.YtleimfinniclgaaGreatDoor.M
open Go.RowKit
set_option linter.unusedVariables false
set_option linter.unusedSimpArgs false

theorem flats_append (xs ys : List AVal) : flats (xs ++ ys) = flats xs ++ flats ys := by simp [flats]
section
variable {P : Program} {C : Cx} {B : Nat} {F : Nat → Nat → Prop} {w0 : World} {hp : Heap} {tm : List Cell} {ct : Array Value}

theorem RV.one_cell {v : AVal} {cv : Value} (h : RV C v cv) (h1 : v.one = true) : cv.oneCell' = true := by
  cases h <;> first | rfl | (simp [AVal.one] at h1)
/-- What a list is in memory. -/
theorem RV.lst_inv {xs : List AVal} {cv : Value} (h : RV C (.lst xs) cv) : ∃ A c sz, cv = .slice A xs.length c ∧ xs.length ≤ c ∧ (xs ≠ [] → 0 < sz) ∧ (∀ x, x ∈ xs → x.flat.length = sz) ∧ (∀ u, u ∈ flats xs → u.one = true) ∧
    ∃ vs : List Value, vs.length = (flats xs).length ∧ (∀ (i : Nat) v, vs[i]? = some v → ∃ b o, A = some ⟨b, o, none⟩ ∧ C.I b (o + i) ∧ C.w.cell? ⟨b, o + i, none⟩ = some v) ∧ ∀ (i : Nat) u v, (flats xs)[i]? = some u → vs[i]? = some v → RV C u v := by
  cases h with
  | lst _ A c sz cu hc hz hs h1 hm h =>
    refine ⟨A, c, sz, rfl, hc, hz, hs, h1, (List.range (flats xs).length).map cu, by simp, fun i v hi => ?_, fun i u v hu hi => ?_⟩
    · rw [List.getElem?_map] at hi
      obtain ⟨j, hj, rfl⟩ := Option.map_eq_some_iff.1 hi
      have hlt := (List.getElem?_eq_some_iff.1 hj).1
      simp at hlt
      rw [List.getElem?_range hlt] at hj
      injection hj with hj; subst hj
      exact hm i _ (List.getElem?_eq_getElem hlt)
    · rw [List.getElem?_map] at hi
      obtain ⟨j, hj, rfl⟩ := Option.map_eq_some_iff.1 hi
      have hlt := (List.getElem?_eq_some_iff.1 hu).1
      rw [List.getElem?_range hlt] at hj
      injection hj with hj; subst hj
      exact h i u hu
theorem RV.lst_mk {xs : List AVal} {A : Option Addr} {c sz : Nat} (hc : xs.length ≤ c) (hz : xs ≠ [] → 0 < sz) (hs : ∀ x, x ∈ xs → x.flat.length = sz) (h1 : ∀ u, u ∈ flats xs → u.one = true)
    (vs : List Value) (hl : vs.length = (flats xs).length) (hm : ∀ (i : Nat) v, vs[i]? = some v → ∃ b o, A = some ⟨b, o, none⟩ ∧ C.I b (o + i) ∧ C.w.cell? ⟨b, o + i, none⟩ = some v) (h : ∀ (i : Nat) u v, (flats xs)[i]? = some u → vs[i]? = some v → RV C u v) : RV C (.lst xs) (.slice A xs.length c) := by
  refine .lst xs A c sz (fun i => vs.getD i undef) hc hz hs h1 (fun i u hu => ?_) (fun i u hu => ?_)
  · have hlt := (List.getElem?_eq_some_iff.1 hu).1
    have hv : vs[i]? = some (vs.getD i undef) := by rw [List.getD_eq_getElem?_getD, List.getElem?_eq_getElem (by omega)]; rfl
    exact hm i _ hv
  · have hlt := (List.getElem?_eq_some_iff.1 hu).1
    exact h i u _ hu (by rw [List.getD_eq_getElem?_getD, List.getElem?_eq_getElem (by omega)]; rfl)
theorem tail_of {xs : List AVal} {b o c sz : Nat} (hne : xs ≠ []) (hs : ∀ x, x ∈ xs → x.flat.length = sz) {b' o' : Nat} : Tail (.lst xs) (.slice (some ⟨b, o, none⟩) xs.length c) b' o' ↔ b' = b ∧ o + xs.length * sz ≤ o' ∧ o' < o + c * sz := by
  constructor
  · rintro ⟨xs', a, n, c', x, r, h1, h2, h3, h4, h5, h6⟩
    injection h1 with h1; subst h1
    injection h2 with h2 _ h7; injection h2 with h2; subst h2 h7
    rw [flats_len hs] at h5
    rw [hs x (by rw [h3]; exact List.mem_cons_self ..)] at h6
    exact ⟨h4, h5, h6⟩
  · rintro ⟨h1, h2, h3⟩
    obtain ⟨x, r, e⟩ := List.exists_cons_of_ne_nil hne
    exact ⟨xs, ⟨b, o, none⟩, xs.length, c, x, r, rfl, rfl, e, h1, by rw [flats_len hs]; exact h2, by rw [hs x (by rw [e]; exact List.mem_cons_self ..)]; exact h3⟩
theorem len_le_of {α : Type} {xs : List α} {n m : Nat} (h : n ≤ m) (k : Nat) : n * k ≤ m * k := Nat.mul_le_mul_right k h

theorem Owned.ne_drop {s : Nat} {v : AVal} {k : Nat × Nat} {v' : AVal} {cv' : Value} (ho : Owned C hp (tm.set s (v, false)) ct k v' cv') : k ≠ (0, s) ∧ Owned C hp tm ct k v' cv' := by
  obtain ⟨i, t⟩ := k
  cases i with
  | zero =>
    obtain ⟨h1, h2⟩ := ho
    rw [List.getElem?_set] at h1
    by_cases e : s = t
    · subst e
      rw [if_pos rfl] at h1
      split at h1 <;> simp at h1
    · rw [if_neg e] at h1
      exact ⟨by simp; exact fun q => e q.symm, h1, h2⟩
  | succ j => exact ⟨by simp, ho⟩

/-- append(x, ys..): what is appended to is owned. -/
theorem WRel.append (h : WRel C B F w0 hp tm ct) {s : Nat} {xs ys : List AVal} {cx cy : Value} (hs : tm[s]? = some (.lst xs, true)) (hcs : ct[s]? = some cx) (hy : RV C (.lst ys) cy)
    (t t2 ty e e2 : TypeId) (i : TypeInfo) (z : Value) (ht : P.underlying t = some (.slice e)) (ht2 : P.underlying t2 = some (.slice e2)) (hi : P.info? e = some i) (hz : i.zero = some z) (hzs : z.cells.size = i.size) (hbz : i.bytes ≠ 0)
    (hsx : ∀ x r, xs = x :: r → x.flat.length = i.size) (hsy : ∀ y r, ys = y :: r → y.flat.length = i.size) (hb : (xs.length + ys.length) * i.bytes ≤ 140737488355328) :
    ∃ D cv, (Builtin.append_ #[t, t2] ty #[cx, cy]).run P C.w = .ok cv D.w ∧ C.Le D ∧ D.nx = C.nx ∧ WRel D B F w0 hp (tm.set s (.lst xs, false)) ct ∧ RV D (.lst (xs ++ ys)) cv ∧ OwnOk D B F hp (.lst (xs ++ ys)) cv ∧
      ∀ k v' cv', Owned D hp (tm.set s (.lst xs, false)) ct k v' cv' → ∀ b o, Tail (.lst (xs ++ ys)) cv b o → ¬ Tail v' cv' b o := by
  have ow : Owned C hp tm ct (0, s) (.lst xs) cx := ⟨hs, hcs⟩
  have ok := h.own _ _ _ ow
  obtain ⟨u, hu1, hx⟩ := h.tmp s _ hs
  rw [hcs] at hu1; injection hu1 with hu1; subst hu1
  obtain ⟨A, c, sz, rfl, hc, hpz, hsz, h1, vs, hvl, hvm, hvr⟩ := hx.lst_inv
  obtain ⟨A2, c2, sz2, rfl, hc2, hpz2, hsz2, h12, vs2, hvl2, hvm2, hvr2⟩ := hy.lst_inv
  have hform : xs = [] → c = 0 := by
    obtain ⟨xs', A', n', c', e1, e2', e3⟩ := ok.form
    injection e1 with e1; subst e1
    injection e2' with _ _ e4; subst e4
    exact e3
  have hX : ∀ x, x ∈ xs → x.flat.length = i.size := by
    cases hxs : xs with
    | nil => intro x hx; cases hx
    | cons x r =>
      have e1 := hsx x r hxs
      have e2' := hsz x (by rw [hxs]; exact List.mem_cons_self ..)
      intro y hy
      rw [hsz y (by rw [hxs]; exact hy), ← e2', e1]
  have hY : ∀ y, y ∈ ys → y.flat.length = i.size := by
    cases hys : ys with
    | nil => intro x hx; cases hx
    | cons x r =>
      have e1 := hsy x r hys
      have e2' := hsz2 x (by rw [hys]; exact List.mem_cons_self ..)
      intro y hy
      rw [hsz2 y (by rw [hys]; exact hy), ← e2', e1]
  have hipos : ys ≠ [] → 0 < i.size := fun hne => by
    obtain ⟨y, r, e⟩ := List.exists_cons_of_ne_nil hne
    have := hpz2 hne
    rw [← hY y (by rw [e]; exact List.mem_cons_self ..), hsz2 y (by rw [e]; exact List.mem_cons_self ..)]
    exact this
  have hiposx : xs ≠ [] → 0 < i.size := fun hne => by
    obtain ⟨y, r, e⟩ := List.exists_cons_of_ne_nil hne
    have := hpz hne
    rw [← hX y (by rw [e]; exact List.mem_cons_self ..), hsz y (by rw [e]; exact List.mem_cons_self ..)]
    exact this
  have lx := flats_len hX
  have ly := flats_len hY
  have hXY : ∀ x, x ∈ xs ++ ys → x.flat.length = i.size := fun x hx => (List.mem_append.1 hx).elim (hX x) (hY x)
  have hXYpos : xs ++ ys ≠ [] → 0 < i.size := fun hne => by
    by_cases e : xs = []
    · subst e; exact hipos (by simpa using hne)
    · exact hiposx e
  have h1XY : ∀ u, u ∈ flats (xs ++ ys) → u.one = true := fun u hu => by
    rw [flats_append] at hu
    exact (List.mem_append.1 hu).elim (h1 u) (h12 u)
  have hlenY : (Builtin.lenOf (.slice A2 ys.length c2)).run P C.w = .ok ys.length C.w := rfl
  have hd2 : ∀ k, (TypeDesc.slice e2) ≠ .int k := fun k q => by cases q
  by_cases hfit : xs.length + ys.length ≤ c
  · by_cases hy0 : ys = []
    · subst hy0
      refine ⟨C, .slice A xs.length c, ?_, Cx.Le.refl C, rfl, h.drop s hs, by simpa using hx, by simpa using ok, fun k v' cv' ho b o ht => ?_⟩
      · have hf := run_first (P := P) C.w i.size 0 c2 A2 [] (by simp) (fun i v hi => by simp at hi)
        have := run_append_in (P := P) C.w t t2 ty e i _ ht ht2 hd2 hi A xs.length c 0 (.slice A2 0 c2) [] rfl hf (by simpa using hfit) C.w (fun a _ => rfl) (fun _ => rfl)
        simpa using this
      · obtain ⟨q1, q2⟩ := Owned.ne_drop ho
        rw [List.append_nil] at ht
        exact h.sep _ _ _ _ _ _ ow q2 (fun q => q1 q.symm) b o ht
    · have hyp := hipos hy0
      have hyl : 0 < ys.length := List.length_pos_iff.2 hy0
      have hx0 : xs ≠ [] := fun q => by have := hform q; subst q; simp at hfit; omega
      have hxl : 0 < xs.length := List.length_pos_iff.2 hx0
      have hvpos : 0 < vs.length := by rw [hvl, lx]; exact Nat.mul_pos hxl hyp
      obtain ⟨b, o, rfl, _, _⟩ := hvm 0 _ (List.getElem?_eq_getElem hvpos)
      have hv2l : vs2.length = ys.length * i.size := by rw [hvl2, ly]
      have hv2ne : vs2 ≠ [] := by
        intro q
        rw [q] at hv2l
        have := Nat.mul_pos hyl hyp
        simp at hv2l
        omega
      have hmul : (xs.length + ys.length) * i.size ≤ c * i.size := Nat.mul_le_mul_right _ hfit
      rw [Nat.add_mul] at hmul
      have hin : ∀ o', o + xs.length * i.size ≤ o' → o' < o + xs.length * i.size + vs2.length → Tail (.lst xs) (.slice (some ⟨b, o, none⟩) xs.length c) b o' := fun o' a1 a2 => (tail_of hx0 hX).2 ⟨rfl, a1, by omega⟩
      obtain ⟨le, hD⟩ := h.fill hs hcs b (o + xs.length * i.size) vs2 hv2ne hin
      have hone : ∀ v ∈ vs2, v.oneCell' = true := by
        intro v hv
        obtain ⟨j, hj⟩ := List.getElem?_of_mem hv
        have hjl := (List.getElem?_eq_some_iff.1 hj).1
        have hu := List.getElem?_eq_getElem (l := flats ys) (i := j) (by omega)
        exact (hvr2 j _ v hu hj).one_cell (h12 _ (List.getElem_mem ..))
      have hst : (storeCells (⟨b, o + xs.length * i.size, none⟩ : Addr) vs2).run P C.w = .ok () (C.fill b (o + xs.length * i.size) vs2).w := by
        refine (run_storeCells_cells (P := P) b (o + xs.length * i.size) vs2 0 C.w (fun j hj => ?_) (fun j hj => ?_) hone)
        · obtain ⟨_, _, _, _, ⟨u, hu⟩, _⟩ := ok.cells b (o + xs.length * i.size + 0 + j) (hin _ (by omega) (by omega))
          rw [hu]; rfl
        · exact (ok.cells b (o + xs.length * i.size + 0 + j) (hin _ (by omega) (by omega))).2.2.2.2.2
      refine ⟨_, .slice (some ⟨b, o, none⟩) (xs.length + ys.length) c, ?_, le, rfl, hD, ?_, ?_, fun k v' cv' ho b' o' ht => ?_⟩
      · have hf := run_first (P := P) C.w i.size ys.length c2 A2 vs2 hv2l (fun i v hi => by obtain ⟨b', o', e1, _, e3⟩ := hvm2 i v hi; exact ⟨b', o', e1, e3⟩)
        refine run_append_in (P := P) C.w t t2 ty e i _ ht ht2 hd2 hi _ xs.length c ys.length (.slice A2 ys.length c2) vs2 rfl hf hfit _ (fun a ha => ?_) (fun q => by cases q)
        injection ha with ha; subst ha
        rw [add_at]
        exact hst
      · rw [← List.length_append]
        refine RV.lst_mk (by simpa using hfit) hXYpos hXY h1XY (vs ++ vs2) (by rw [flats_append, List.length_append, List.length_append, hvl, hvl2]) (fun j v hj => ⟨b, o, rfl, ?_⟩) (fun j u v hu hj => ?_)
        · rcases Nat.lt_or_ge j vs.length with hlt | hge
          · rw [List.getElem?_append_left hlt] at hj
            obtain ⟨b', o', e1, e2', e3⟩ := hvm j v hj
            injection e1 with e1; injection e1 with e1 e1'; subst e1 e1'
            exact ⟨.inl e2', (le.cell _ _ e2').trans e3⟩
          · rw [List.getElem?_append_right hge] at hj
            have hjl := (List.getElem?_eq_some_iff.1 hj).1
            have e4 : o + j = o + xs.length * i.size + (j - vs.length) := by rw [← lx, ← hvl]; omega
            rw [e4]
            refine ⟨.inr ⟨rfl, by omega, by omega⟩, ?_⟩
            have := World.cell?_setCells_in b vs2 (o + xs.length * i.size) C.w (fun k hk => by
              obtain ⟨_, _, _, _, ⟨u, hu⟩, _⟩ := ok.cells b (o + xs.length * i.size + k) (hin _ (by omega) (by omega))
              rw [hu]; rfl) (j - vs.length) hjl
            rw [(List.getElem?_eq_some_iff.1 hj).2] at this
            exact this
        · rw [flats_append] at hu
          rcases Nat.lt_or_ge j vs.length with hlt | hge
          · rw [List.getElem?_append_left hlt] at hj
            rw [List.getElem?_append_left (by omega)] at hu
            exact (hvr j u v hu hj).mono le
          · rw [List.getElem?_append_right hge] at hj
            rw [List.getElem?_append_right (by omega), ← hvl] at hu
            exact (hvr2 _ u v hu hj).mono le
      · refine ⟨⟨xs ++ ys, _, _, c, rfl, rfl, fun q => absurd (List.append_eq_nil_iff.1 q).1 hx0⟩, fun b' o' ht => ?_⟩
        rw [← List.length_append] at ht
        have ht' := (tail_of (fun q => hx0 (List.append_eq_nil_iff.1 q).1) hXY).1 ht
        obtain ⟨rfl, t1, t2'⟩ := ht'
        rw [List.length_append, Nat.add_mul] at t1
        have htl : Tail (.lst xs) (.slice (some ⟨b', o, none⟩) xs.length c) b' o' := (tail_of hx0 hX).2 ⟨rfl, by omega, t2'⟩
        obtain ⟨a1, a2, a3, a4, ⟨u, a5⟩, a6⟩ := ok.cells b' o' htl
        refine ⟨a1, fun hI => ?_, a3, a4, ⟨u, ?_⟩, (World.frozen?_setCells b' vs2 _ C.w _).trans a6⟩
        · rcases hI with hI | ⟨_, _, hI⟩
          · exact a2 hI
          · omega
        · refine (World.cell?_setCells_out b' vs2 _ C.w ⟨b', o', none⟩ fun _ _ => .inr ?_).trans a5
          show o + xs.length * i.size + vs2.length ≤ o'
          omega
      · have q := Owned.ne_drop ho
        have q2 : Owned C hp tm ct k v' cv' := by
          have q2 := q.2
          obtain ⟨k1, k2⟩ := k
          cases k1 with
          | zero => exact q2
          | succ id =>
            obtain ⟨cs', vs', ty', g1, g2, g3, g4⟩ := q2
            have hid : (hget hp id).isSome = true := by rw [g1]; rfl
            have g3' : (C.fill b (o + xs.length * i.size) vs2).w.heap[C.ι id]? = some (.cells vs' ty' (0, 0)) := g3
            rw [show (C.fill b (o + xs.length * i.size) vs2).w.heap[C.ι id]? = C.w.heap[C.ι id]? from setCells_other b _ (fun e => (ok.cells b (o + xs.length * i.size) (hin _ (Nat.le_refl _) (by have := List.length_pos_iff.2 hv2ne; omega))).2.2.2.1 id hid e.symm) _ _ _] at g3'
            exact ⟨cs', vs', ty', g1, g2, g3', g4⟩
        rw [← List.length_append] at ht
        obtain ⟨rfl, t1, t2'⟩ := (tail_of (fun q => hx0 (List.append_eq_nil_iff.1 q).1) hXY).1 ht
        rw [List.length_append, Nat.add_mul] at t1
        exact h.sep _ _ _ _ _ _ ow q2 (fun e => q.1 e.symm) b' o' ((tail_of hx0 hX).2 ⟨rfl, by omega, t2'⟩)
  · have hy0 : ys ≠ [] := fun q => by subst q; simp at hfit; omega
    have hyp := hipos hy0
    have hne : xs ++ ys ≠ [] := fun q => hy0 (List.append_eq_nil_iff.1 q).2
    have hvl' : vs.length = xs.length * i.size := by rw [hvl, lx]
    have hv2l : vs2.length = ys.length * i.size := by rw [hvl2, ly]
    have hf := run_first (P := P) C.w.drew i.size ys.length c2 A2 vs2 hv2l (fun i v hi => by obtain ⟨b', o', e1, _, e3⟩ := hvm2 i v hi; exact ⟨b', o', e1, e3⟩)
    have hfo := run_first (P := P) C.w.drew i.size xs.length c A vs hvl' (fun i v hi => by obtain ⟨b', o', e1, _, e3⟩ := hvm i v hi; exact ⟨b', o', e1, e3⟩)
    have hrun := run_append_out (P := P) C.w t t2 ty e i z _ ht ht2 hd2 hi hz A xs.length c ys.length (.slice A2 ys.length c2) vs vs2 rfl hfit hf hfo hb hbz
    generalize hcap : grownCap C.w (xs.length + ys.length) c e = cap at hrun
    have hcapge : xs.length + ys.length ≤ cap := by rw [← hcap]; exact grownCap_ge _ _ _ _
    let blk : Array Value := vs.toArray ++ vs2.toArray ++ Builtin.zeroCells z.cells (cap - (xs.length + ys.length))
    have hbs : blk.size = cap * i.size := by
      simp only [blk, Array.size_append, List.size_toArray, size_zeroCells, hzs, hvl', hv2l]
      rw [← Nat.add_mul, ← Nat.add_mul]
      congr 1
      omega
    have hbl : ∀ (j : Nat) (v : Value), (vs ++ vs2)[j]? = some v → blk[j]? = some v := by
      intro j v hj
      have hjl := (List.getElem?_eq_some_iff.1 hj).1
      rw [List.length_append] at hjl
      simp only [blk]
      rw [Array.getElem?_append_left (by simpa using hjl), List.append_toArray]
      simpa using hj
    let D : Cx := { ι := C.ι, I := fun b' o => C.I b' o ∨ (b' = C.w.heap.size ∧ o < (xs.length + ys.length) * i.size), nx := C.nx, w := C.w.drew.alloc (.cells blk e) }
    have hnew : ∀ (o : Nat), D.w.cell? ⟨C.w.heap.size, o, none⟩ = blk[o]? := fun o => cell_new C.w.drew blk e o
    have hcs' : (xs.length + ys.length) * i.size ≤ cap * i.size := Nat.mul_le_mul_right _ hcapge
    have g : Grow C D := ⟨(Below.refl _ C.w).drew.trans (below_alloc' C.w.drew _), Nat.le_refl _, fun _ _ => rfl, fun _ _ h => .inl h, fun b o hI => hI.imp id fun q => by rw [q.1]; exact Nat.le_refl _, fun b o hI hbb => by
      rcases hI with hI | ⟨rfl, hI⟩
      · obtain ⟨u, hu⟩ := h.heap.imm b o hI
        have := cell_lt hu; omega
      · exact ⟨blk[o]'(by omega), by rw [hnew]; exact Array.getElem?_eq_getElem (by omega)⟩⟩
    have le := h.heap.le g
    refine ⟨D, .slice (some ⟨C.w.heap.size, 0, none⟩) (xs.length + ys.length) cap, hrun, le, rfl, (h.grow g).drop s hs, ?_, ?_, fun k v' cv' ho b' o' ht => ?_⟩
    · rw [← List.length_append]
      refine RV.lst_mk (by simpa using hcapge) hXYpos hXY h1XY (vs ++ vs2) (by rw [flats_append, List.length_append, List.length_append, hvl, hvl2]) (fun j v hj => ⟨_, 0, rfl, ?_⟩) (fun j u v hu hj => ?_)
      · have hjl := (List.getElem?_eq_some_iff.1 hj).1
        rw [List.length_append, hvl', hv2l, ← Nat.add_mul] at hjl
        refine ⟨.inr ⟨rfl, by omega⟩, ?_⟩
        rw [hnew, Nat.zero_add]
        exact hbl j v hj
      · rw [flats_append] at hu
        rcases Nat.lt_or_ge j vs.length with hlt | hge
        · rw [List.getElem?_append_left hlt] at hj
          rw [List.getElem?_append_left (by omega)] at hu
          exact (hvr j u v hu hj).mono le
        · rw [List.getElem?_append_right hge] at hj
          rw [List.getElem?_append_right (by omega), ← hvl] at hu
          exact (hvr2 _ u v hu hj).mono le
    · refine ⟨⟨xs ++ ys, _, _, cap, rfl, rfl, fun q => absurd q hne⟩, fun b' o' ht => ?_⟩
      rw [← List.length_append] at ht
      obtain ⟨rfl, t1, t2'⟩ := (tail_of hne hXY).1 ht
      rw [List.length_append, Nat.zero_add] at t1
      rw [Nat.zero_add] at t2'
      refine ⟨Nat.le_trans h.heap.base h.heap.below.size, fun hI => ?_, fun hF => ?_, fun id hid => ?_, ⟨blk[o']'(by omega), ?_⟩, ?_⟩
      · rcases hI with hI | ⟨_, hI⟩
        · obtain ⟨u, hu⟩ := h.heap.imm _ _ hI
          exact absurd (cell_lt hu) (Nat.lt_irrefl _)
        · omega
      · obtain ⟨⟨u, hu⟩, _⟩ := h.heap.far _ _ hF
        exact absurd (cell_lt hu) (Nat.lt_irrefl _)
      · have := (h.heap.out id hid).2.1
        show C.w.heap.size ≠ C.ι id
        omega
      · rw [hnew]; exact Array.getElem?_eq_getElem (by omega)
      · have := alloc_at C.w.drew (.cells blk e)
        show (C.w.drew.alloc (.cells blk e)).frozen? _ = false
        simp only [World.frozen?]
        rw [show C.w.heap.size = C.w.drew.heap.size from rfl, this]
        simp
    · have q := (Owned.ne_drop ho).2.back h.heap g
      rw [← List.length_append] at ht
      obtain ⟨rfl, t1, t2'⟩ := (tail_of hne hXY).1 ht
      intro ht'
      obtain ⟨_, _, _, _, ⟨u, hu⟩, _⟩ := (h.own k v' cv' q).cells _ _ ht'
      exact absurd (cell_lt hu) (Nat.lt_irrefl _)
end
end Go.Proofs.YtleimfinniclgaaGreatDoor.M
/- The machine is right, operation by operation (1). -/
namespace Go.Proofs.YtleimfinniclgaaGreatDoor.M
open Go.RowKit
set_option linter.unusedVariables false
set_option linter.unusedSimpArgs false

section
variable {P : Program} {C : Cx} {B : Nat} {F : Nat → Nat → Prop} {w0 : World} {hp : Heap} {tm : List Cell} {ct : Array Value} {v : Value}

theorem RV.int_inv {k : IntKind} {n : Int} (h : RV C (.int k n) v) : v = .int k n := by cases h; rfl
theorem RV.bool_inv {b : Bool} (h : RV C (.bool b) v) : v = .bool b := by cases h; rfl
theorem RV.str_inv {s : ByteArray} (h : RV C (.str s) v) : v = .string s := by cases h; rfl
theorem RV.ptr_inv {id off : Nat} (h : RV C (.ptr id off) v) : v = .pointer (some ⟨C.ι id, off, none⟩) ∧ id < C.nx := by cases h; exact ⟨rfl, by assumption⟩
theorem RV.sl_inv {id off len sz : Nat} {ag : Bool} (h : RV C (.sl id off len sz ag) v) : ∃ c, v = .slice (some ⟨C.ι id, off, none⟩) len c ∧ id < C.nx ∧ len ≤ c ∧ ∀ o, o < off + c * sz → ∃ u, C.w.cell? ⟨C.ι id, o, none⟩ = some u := by
  cases h; exact ⟨_, rfl, by assumption, by assumption, by assumption⟩
theorem RV.agg_inv {cs : List AVal} (h : RV C (.agg cs) v) : ∃ vs : List Value, v = .agg vs.toArray ∧ vs.length = cs.length ∧ (∀ a, a ∈ cs → a.one = true) ∧ ∀ (i : Nat) a u, cs[i]? = some a → vs[i]? = some u → RV C a u := by
  cases h with
  | agg cs vs hl h1 h => exact ⟨vs, rfl, hl, h1, h⟩
theorem RV.tup_inv {cs : List AVal} (h : RV C (.tup cs) v) : ∃ vs : List Value, v = .tuple vs.toArray ∧ vs.length = cs.length ∧ ∀ (i : Nat) a u, cs[i]? = some a → vs[i]? = some u → RV C a u := by
  cases h with
  | tup cs vs hl h => exact ⟨vs, rfl, hl, h⟩
theorem RV.pel_inv {e : AVal} {off : Nat} (h : RV C (.pel e off) v) : ∃ b o, v = .pointer (some ⟨b, o + off, none⟩) ∧ (∀ u, u ∈ e.flat → u.one = true) ∧ ∃ cu : Nat → Value, (∀ (i : Nat) u, e.flat[i]? = some u → C.I b (o + i) ∧ C.w.cell? ⟨b, o + i, none⟩ = some (cu i)) ∧ ∀ (i : Nat) u, e.flat[i]? = some u → RV C u (cu i) := by
  cases h with
  | pel e off b o cu h1 hm h => exact ⟨b, o, rfl, h1, cu, hm, h⟩
theorem RV.clo_inv {f : FuncId} {fs cs : List AVal} (h : RV C (.clo f fs cs) v) : ∃ fv cv : List Value, v = .func (.func f) fv.toArray cv.toArray ∧ fv.length = fs.length ∧ cv.length = cs.length ∧ (∀ (i : Nat) a u, fs[i]? = some a → fv[i]? = some u → RV C a u) ∧ ∀ (i : Nat) a u, cs[i]? = some a → cv[i]? = some u → RV C a u := by
  cases h with
  | clo f fs cs fv cv hf hl h h' => exact ⟨fv, cv, rfl, hf, hl, h, h'⟩
theorem RV.ofCell (u : Value) : RV C (ofCell u) u := by
  unfold M.ofCell
  split
  · exact .int _ _
  · exact .bool _
  · exact .str _
  · exact .nilp
  · exact .nilf
  · exact .nilm
  · refine RV.lst_mk (sz := 1) (Nat.le_refl _) (fun h => absurd rfl h) (fun x hx => by cases hx) (fun u hu => by cases hu) [] rfl (fun i v hi => by simp at hi) (fun i a v hi => by simp [flats] at hi)
  · exact .bad _
theorem RV.ofCellN (u : Value) : RV C (ofCellN u) u := by
  unfold M.ofCellN
  split
  · exact .nils
  · exact RV.ofCell _
theorem RV.ofVal (u : Value) : RV C (ofVal u) u := by
  cases u with
  | agg cs =>
    simp only [M.ofVal]
    split
    · rename_i h
      have := RV.agg (C := C) (cs.toList.map M.ofCell) cs.toList (by simp) (fun a ha => List.all_eq_true.1 h a ha) (fun i a v hi hv => by
        rw [List.getElem?_map, hv] at hi
        injection hi with hi; subst hi
        exact RV.ofCell v)
      simpa using this
    · exact .bad _
  | tuple cs =>
    simp only [M.ofVal]
    split
    · rename_i h
      have e : cs = #[] := Array.eq_empty_of_size_eq_zero h
      subst e
      exact RV.tup [] [] rfl (fun i a v hi => by simp at hi)
    · exact .bad _
  | _ => simp only [M.ofVal]; exact RV.ofCell _
theorem RV.ofValN (u : Value) : RV C (ofValN u) u := by
  cases u with
  | agg cs =>
    simp only [M.ofValN]
    split
    · rename_i h
      have := RV.agg (C := C) (cs.toList.map M.ofCellN) cs.toList (by simp) (fun a ha => List.all_eq_true.1 h a ha) (fun i a v hi hv => by
        rw [List.getElem?_map, hv] at hi
        injection hi with hi; subst hi
        exact RV.ofCellN v)
      simpa using this
    · exact .bad _
  | _ => simp only [M.ofValN]; exact RV.ofVal _
/-- What an operand is. -/
theorem WRel.ev (h : WRel C B F w0 hp tm ct) (x : Operand) (ds : List Deferred) : RV C (ev tm x).1 (Act.eval ⟨ct, ds⟩ x) := by
  cases x with
  | tmp t =>
    simp only [M.ev, Act.eval]
    cases ht : tm[t]? with
    | none => exact .bad _
    | some c =>
      obtain ⟨u, hu, hr⟩ := h.tmp t c ht
      have : ct.getD t undef = u := by
        have hlt := (Array.getElem?_eq_some_iff.1 hu).1
        have he := (Array.getElem?_eq_some_iff.1 hu).2
        simp [Array.getD, hlt, he]
      rw [this]
      exact hr
  | const u => exact RV.ofVal u
  | global g => exact .bad _
  | func f => exact RV.clo f [] [] [] [] rfl rfl (fun i a v hi => by simp at hi) (fun i a v hi => by simp at hi)

/-- The operation has gone through: what it left. -/
def Done (C : Cx) (B : Nat) (F : Nat → Nat → Prop) (w0 : World) (tm : List Cell) (a : Act) (dst : Option Tmp) (q : Out) (r : Result Next) : Prop :=
  ∃ D n u, r = .ok n D.w ∧ (n = .value u ∨ (n = .skip ∧ u = undef)) ∧ C.Le D ∧ D.nx = q.nx ∧ WRel D B F w0 q.hp (q.put dst tm).tm (a.put dst u).tmps ∧ (a.put dst u).defers = a.defers
theorem put_defers (a : Act) (dst : Option Tmp) (u : Value) : (a.put dst u).defers = a.defers := by cases dst <;> rfl
theorem put_tmps (a : Act) (d : Nat) (u : Value) : (a.put (some d) u).tmps = a.tmps.setIfInBounds d u := rfl

theorem done_val (h : WRel C B F w0 hp tm ct) (ds : List Deferred) (dst : Option Tmp) {x : AVal} {u : Value} (hx : RV C x u) : Done C B F w0 tm ⟨ct, ds⟩ dst (Out.val C.nx hp x) (.ok (.value u) C.w) := by
  refine ⟨C, _, u, rfl, .inl rfl, Cx.Le.refl C, rfl, ?_, put_defers _ _ _⟩
  cases dst with
  | none => exact h
  | some d => exact h.put d hx
theorem unflag_some {t : Nat} {c : Cell} (h : tm[t]? = some c) : unflag tm t = tm.set t (c.1, false) := by simp [unflag, h]
/-- nil is owned. -/
theorem WRel.putn (h : WRel C B F w0 hp tm ct) (d : Nat) {b : Bool} : WRel C B F w0 hp (tm.set d (.lst [], b)) (ct.setIfInBounds d (.slice none 0 0)) := by
  cases b with
  | false => exact h.put d (by have := RV.ofCell (C := C) (.slice none 0 0); exact this)
  | true =>
    refine h.puto d (by have := RV.ofCell (C := C) (.slice none 0 0); exact this) ⟨⟨[], none, 0, 0, rfl, rfl, fun _ => rfl⟩, fun b o ht => ?_⟩ (fun k v' cv' _ _ b o ht => ?_)
    · obtain ⟨_, _, _, _, _, _, _, h2, _⟩ := ht; simp at h2
    · obtain ⟨_, _, _, _, _, _, _, h2, _⟩ := ht; simp at h2
theorem isNil_eq {u : Value} (h : isNil u = true) : u = .slice none 0 0 := by
  unfold isNil at h
  split at h
  · rfl
  · cases h
theorem sound_move (h : WRel C B F w0 hp tm ct) (ds : List Deferred) (dst : Option Tmp) (take : Bool) (x : Operand) {q : Out} (hq : amove take x (ev tm x) C.nx hp = some q) : Done C B F w0 tm ⟨ct, ds⟩ dst q (.ok (.value (Act.eval ⟨ct, ds⟩ x)) C.w) := by
  have hx := h.ev x ds
  cases x with
  | tmp t =>
    generalize hc : M.ev tm (.tmp t) = c at hq hx
    obtain ⟨a, f⟩ := c
    cases f with
    | false => simp only [amove] at hq; injection hq with hq; subst hq; exact done_val h ds dst hx
    | true =>
      simp only [amove] at hq
      split at hq
      · injection hq with hq; subst hq
        have ht : tm[t]? = some (a, true) := by
          simp only [M.ev] at hc
          cases ht : tm[t]? with
          | none => rw [ht] at hc; simp at hc
          | some c => rw [ht] at hc; simp at hc; rw [hc]
        obtain ⟨u, hu, _⟩ := h.tmp t _ ht
        have hev : Act.eval ⟨ct, ds⟩ (.tmp t) = u := by
          have hlt := (Array.getElem?_eq_some_iff.1 hu).1
          have he := (Array.getElem?_eq_some_iff.1 hu).2
          simp [Act.eval, Array.getD, hlt, he]
        rw [hev]
        refine ⟨C, _, u, rfl, .inl rfl, Cx.Le.refl C, rfl, ?_, put_defers _ _ _⟩
        cases dst with
        | none => simp only [Out.put, unflag_some ht]; exact h.drop t ht
        | some d => simp only [Out.put, unflag_some ht]; exact h.puts d t ht hu
      · injection hq with hq; subst hq; exact done_val h ds dst hx
  | const u =>
    simp only [amove, M.ev] at hq
    injection hq with hq; subst hq
    refine ⟨C, _, u, rfl, .inl rfl, Cx.Le.refl C, rfl, ?_, put_defers _ _ _⟩
    cases dst with
    | none => exact h
    | some d =>
      show WRel C B F w0 hp (tm.set d (M.ofVal u, isNil u)) (ct.setIfInBounds d u)
      cases hn : isNil u with
      | false => exact h.put d (RV.ofVal u)
      | true => obtain rfl := isNil_eq hn; exact h.putn d
  | global g => simp only [amove, M.ev] at hq; injection hq with hq; subst hq; exact done_val h ds dst hx
  | func f => simp only [amove, M.ev] at hq; injection hq with hq; subst hq; exact done_val h ds dst hx
end
end Go.Proofs.YtleimfinniclgaaGreatDoor.M
/- The machine is right, operation by operation (2): operations that give a value. -/
namespace Go.Proofs.YtleimfinniclgaaGreatDoor.M
open Go.RowKit
set_option linter.unusedVariables false
set_option linter.unusedSimpArgs false

section
variable {P : Program} {C : Cx} {B : Nat} {F : Nat → Nat → Prop} {w0 : World} {hp : Heap} {tm : List Cell} {ct : Array Value}

theorem val_some {nx : Nat} {hp : Heap} {x : Option AVal} {q : Out} (h : x.map (Out.val nx hp) = some q) : ∃ v, x = some v ∧ q = Out.val nx hp v := by
  cases x with
  | none => cases h
  | some v => injection h with h; exact ⟨v, rfl, h.symm⟩
theorem info_of_underlying {t : TypeId} {d : TypeDesc} (h : P.underlying t = some d) : ∃ i, P.info? t = some i := by
  unfold Program.underlying at h
  cases hi : P.info? t with
  | none => rw [hi] at h; cases h
  | some i => exact ⟨i, rfl⟩
theorem info_of_size {t : TypeId} (h : 0 < sizeT P t) : ∃ i, P.info? t = some i ∧ i.size = sizeT P t := by
  unfold sizeT at h ⊢
  cases hi : P.info? t with
  | none => rw [hi] at h; simp at h
  | some i => exact ⟨i, rfl, rfl⟩
theorem run_sizeT {t : TypeId} {i : TypeInfo} (h : P.info? t = some i) (w : World) : (sizeOf t).run P w = .ok (sizeT P t) w := by
  simp [sizeOf, typeInfo, sizeT, h]
theorem run_isAggT {t : TypeId} {b : Bool} (h : isAggT P t = some b) (w : World) : (isAgg t).run P w = .ok b w := by
  unfold isAggT at h
  unfold isAgg
  cases hu : P.underlying t with
  | none => rw [hu] at h; cases h
  | some d =>
    rw [hu] at h
    simp only [Sem.run_bind, run_underlying hu, Result.andThen_ok]
    cases d <;> simp at h <;> subst h <;> rfl
theorem info_of_agg {t : TypeId} {b : Bool} (h : isAggT P t = some b) : ∃ i, P.info? t = some i := by
  unfold isAggT at h
  cases hu : P.underlying t with
  | none => rw [hu] at h; cases h
  | some d => exact info_of_underlying hu

theorem sound_bin (ds : List Deferred) (op : BinOp) (t : TypeId) (x y : Operand) {a b : AVal} {r : AVal} {u v : Value} (hu : RV C a u) (hv : RV C b v) (h : abin op a b = some r) :
    ∃ z, (do eqGuard op t x y u v; binOp op t u v : Sem Value).run P C.w = .ok z C.w ∧ RV C r z := by
  cases a <;> cases b <;> simp only [abin] at h <;> try (cases h; done)
  · rename_i k n k' n'
    split at h
    · rename_i hk; subst hk
      obtain rfl := hu.int_inv
      obtain rfl := hv.int_inv
      have hg : (eqGuard op t x y (.int k n) (.int k n')).run P C.w = .ok () C.w := by unfold eqGuard; cases op <;> rfl
      cases op <;> simp only [aint] at h <;> try (cases h; done)
      all_goals first
        | (injection h with h; subst h; simp only [Sem.run_bind, hg, Result.andThen_ok, binOp, Op.intArith, Op.intCmp, ne_eq, not_true_eq_false, if_false]; first | exact ⟨_, rfl, M.RV.int _ _⟩ | exact ⟨_, rfl, M.RV.bool _⟩)
        | (split at h
           · cases h
           · rename_i hz
             injection h with h; subst h
             simp only [Sem.run_bind, hg, Result.andThen_ok, binOp, Op.intDiv, ne_eq, not_true_eq_false, if_false, if_neg hz]
             exact ⟨_, rfl, M.RV.int _ _⟩)
    · cases h
  · rename_i s s'
    obtain rfl := hu.str_inv
    obtain rfl := hv.str_inv
    have hg : (eqGuard op t x y (.string s) (.string s')).run P C.w = .ok () C.w := by unfold eqGuard; cases op <;> rfl
    cases op <;> simp only [astr] at h <;> try (cases h; done)
    all_goals first
      | (injection h with h; subst h; simp only [Sem.run_bind, hg, Result.andThen_ok, binOp, Op.stringOp]; exact ⟨_, rfl, M.RV.bool _⟩)
      | (split at h
         · rename_i hl
           injection h with h; subst h
           simp only [Sem.run_bind, hg, Result.andThen_ok, binOp, Op.stringOp]
           rw [if_neg (by simp [IntKind.max, IntKind.signed, IntKind.bits]; omega)]
           exact ⟨_, rfl, M.RV.str _⟩
         · cases h)
theorem sound_un (op : UnOp) {a r : AVal} {u : Value} (hu : RV C a u) (h : aun op a = some r) : ∃ z, (Op.unary op u).run P C.w = .ok z C.w ∧ RV C r z := by
  cases op <;> cases a <;> simp only [aun] at h <;> try (cases h; done)
  all_goals
    injection h with h; subst h
    first
      | (obtain rfl := hu.int_inv; exact ⟨_, rfl, M.RV.int _ _⟩)
      | (obtain rfl := hu.bool_inv; exact ⟨_, rfl, M.RV.bool _⟩)
theorem sound_field_addr (t : TypeId) (f : Nat) {a r : AVal} {u : Value} (hu : RV C a u) (h : afield P t a f = some r) : ∃ z, (Instr.fieldAt t u f).run P C.w = .ok z C.w ∧ RV C r z := by
  unfold afield at h
  cases hd : P.underlying t with
  | none => rw [hd] at h; cases h
  | some d =>
    rw [hd] at h
    cases d <;> (try simp only at h) <;> try (cases h; done)
    rename_i fs
    cases hf : fs[f]? with
    | none => rw [hf] at h; cases h
    | some fd =>
      rw [hf] at h
      simp only at h
      split at h
      · rename_i hz
        obtain ⟨i, hi, _⟩ := info_of_size hz
        have hz' : sizeT P fd.type ≠ 0 := by omega
        cases a <;> simp only [ashift] at h <;> try (cases h; done)
        · rename_i id off
          injection h with h; subst h
          obtain ⟨rfl, hid⟩ := hu.ptr_inv
          refine ⟨.pointer (some ⟨C.ι id, off + fd.offset, none⟩), ?_, .ptr _ _ hid⟩
          simp [Instr.fieldAt, run_underlying hd, hf, Instr.sureAddr, fieldPlace, run_sizeT hi, hz', add_at]
        · rename_i e off
          injection h with h; subst h
          obtain ⟨b, o, rfl, h1, cu, hm, hr⟩ := hu.pel_inv
          refine ⟨.pointer (some ⟨b, o + (off + fd.offset), none⟩), ?_, .pel e _ b o cu h1 hm hr⟩
          simp [Instr.fieldAt, run_underlying hd, hf, Instr.sureAddr, fieldPlace, run_sizeT hi, hz', add_at, Nat.add_assoc]
      · cases h
theorem sound_index_addr (t : TypeId) {a i r : AVal} {u v : Value} (hu : RV C a u) (hv : RV C i v) (h : aindexa P t a i = some r) : ∃ z, (Instr.indexAt t u v).run P C.w = .ok z C.w ∧ RV C r z := by
  cases a <;> cases i <;> simp only [aindexa] at h <;> try (cases h; done)
  case sl.int id off len sz ag k n =>
    split at h
    · rename_i h0
      cases hd : P.underlying t with
      | none => rw [hd] at h; cases h
      | some d =>
        rw [hd] at h
        cases d <;> (try simp only at h) <;> try (cases h; done)
        rename_i el
        split at h
        · rename_i hsz
          injection h with h; subst h
          obtain rfl := hv.int_inv
          obtain ⟨c, rfl, hid, hc, hx⟩ := hu.sl_inv
          obtain ⟨ti, hti, _⟩ := info_of_size (P := P) (t := el) (by omega)
          refine ⟨.pointer (some ⟨C.ι id, off + n.toNat * sz, none⟩), ?_, .ptr id _ hid⟩
          simp [Instr.indexAt, asIntOf, run_underlying hd, h0.1, h0.2, run_sizeT hti, add_at, ← hsz.1]
        · cases h
    · cases h
  rename_i xs k n
  split at h
  · rename_i h0
    cases hx : xs[n.toNat]? with
    | none => rw [hx] at h; cases h
    | some e =>
      rw [hx] at h
      cases hd : P.underlying t with
      | none => rw [hd] at h; cases h
      | some d =>
        rw [hd] at h
        cases d <;> (try simp only at h) <;> try (cases h; done)
        rename_i el
        split at h
        · rename_i hsz
          injection h with h; subst h
          obtain rfl := hv.int_inv
          obtain ⟨A, c, sz, rfl, hc, hpz, hs, h1, vs, hvl, hvm, hvr⟩ := hu.lst_inv
          have hmem : e ∈ xs := List.mem_of_getElem? hx
          have hlt : n.toNat < xs.length := (List.getElem?_eq_some_iff.1 hx).1
          have hse := hs e hmem
          have hzpos : 0 < sz := hpz (List.ne_nil_of_mem hmem)
          obtain ⟨ti, hti, _⟩ := info_of_size (P := P) (t := el) (by omega)
          have hfl := flats_len hs
          have hjb : n.toNat * sz < vs.length := by
            rw [hvl, hfl]
            exact Nat.mul_lt_mul_of_pos_right hlt hzpos
          obtain ⟨b, o, rfl, _, _⟩ := hvm 0 _ (List.getElem?_eq_getElem (by omega))
          have hel : ∀ j, j < sz → (flats xs)[n.toNat * sz + j]? = e.flat[j]? := by
            intro j hj
            have hg : ∀ (l : List AVal) (k : Nat), (∀ x, x ∈ l → x.flat.length = sz) → l[k]? = some e → (flats l)[k * sz + j]? = e.flat[j]? := by
              intro l
              induction l with
              | nil => intro k _ hk; simp at hk
              | cons y l ih =>
                intro k hl hk
                have hy := hl y (List.mem_cons_self ..)
                cases k with
                | zero =>
                  simp at hk; subst hk
                  simp only [flats, List.flatMap_cons, Nat.zero_mul, Nat.zero_add]
                  rw [List.getElem?_append_left (by omega)]
                | succ k =>
                  simp only [List.getElem?_cons_succ] at hk
                  have := ih k (fun x hx => hl x (List.mem_cons_of_mem _ hx)) hk
                  simp only [flats, List.flatMap_cons]
                  rw [List.getElem?_append_right (by rw [hy, Nat.add_mul]; omega), hy, show (k + 1) * sz + j - sz = k * sz + j by rw [Nat.add_mul]; omega]
                  exact this
            exact hg xs n.toNat hs hx
          refine ⟨.pointer (some ⟨b, o + n.toNat * sz + 0, none⟩), ?_, RV.pel e 0 b (o + n.toNat * sz) (fun j => vs.getD (n.toNat * sz + j) undef) (fun u hu => ?_) (fun j u hj => ?_) (fun j u hj => ?_)⟩
          · have hn : n < (xs.length : Int) := by omega
            simp [Instr.indexAt, asIntOf, run_underlying hd, h0, hn, run_sizeT hti, add_at, ← hsz, hse]
          · obtain ⟨j, hj⟩ := List.getElem?_of_mem hu
            have hjl : j < sz := by have := (List.getElem?_eq_some_iff.1 hj).1; omega
            exact h1 u (List.mem_of_getElem? ((hel j hjl).trans hj))
          · have hjl : j < sz := by have := (List.getElem?_eq_some_iff.1 hj).1; omega
            have hq := (hel j hjl).trans hj
            have hql := (List.getElem?_eq_some_iff.1 hq).1
            have hv' : vs[n.toNat * sz + j]? = some (vs.getD (n.toNat * sz + j) undef) := by rw [List.getD_eq_getElem?_getD, List.getElem?_eq_getElem (by omega)]; rfl
            obtain ⟨b', o', e1, e2, e3⟩ := hvm _ _ hv'
            injection e1 with e1; injection e1 with e1 e1'; subst e1 e1'
            rw [Nat.add_assoc]
            exact ⟨e2, e3⟩
          · have hjl : j < sz := by have := (List.getElem?_eq_some_iff.1 hj).1; omega
            have hq := (hel j hjl).trans hj
            have hql := (List.getElem?_eq_some_iff.1 hq).1
            exact hvr _ _ _ hq (by rw [List.getD_eq_getElem?_getD, List.getElem?_eq_getElem (by omega)]; rfl)
        · cases h
  · cases h
theorem sound_index (t : TypeId) {a i r : AVal} {u v : Value} (hu : RV C a u) (hv : RV C i v) (h : aindex P t a i = some r) : ∃ z, (Instr.index t u v).run P C.w = .ok z C.w ∧ RV C r z := by
  cases a <;> cases i <;> simp only [aindex] at h <;> try (cases h; done)
  rename_i s k n
  obtain rfl := hu.str_inv
  obtain rfl := hv.int_inv
  split at h
  · rename_i h0
    cases hd : P.underlying t with
    | none => rw [hd] at h; cases h
    | some d =>
      rw [hd] at h
      cases d <;> (try simp only at h) <;> try (cases h; done)
      cases hb : s[n.toNat]? with
      | none => rw [hb] at h; cases h
      | some b =>
        rw [hb] at h
        injection h with h; subst h
        exact ⟨.int .u8 b.toNat, by simp [Instr.index, asIntOf, run_underlying hd, h0, hb], M.RV.int _ _⟩
  · cases h
/-- Cells of a value that lies together. -/
theorem sound_pick (t : TypeId) {cs : List AVal} {off : Nat} {r : AVal} {vs : List Value} (hl : vs.length = cs.length) (h1 : ∀ a, a ∈ cs → a.one = true) (hv : ∀ (i : Nat) a u, cs[i]? = some a → vs[i]? = some u → RV C a u) (h : pick P t cs off = some r) :
    ∃ z, (part t vs.toArray off).run P C.w = .ok z C.w ∧ RV C r z := by
  unfold pick at h
  cases hg : isAggT P t with
  | none => rw [hg] at h; cases h
  | some b =>
    rw [hg] at h
    obtain ⟨i, hi⟩ := info_of_agg hg
    cases b with
    | true =>
      simp only at h
      split at h
      · rename_i hle
        injection h with h; subst h
        refine ⟨.agg (vs.toArray.extract off (off + sizeT P t)), by simp [part, run_isAggT hg, run_sizeT hi], ?_⟩
        have e : vs.toArray.extract off (off + sizeT P t) = ((vs.drop off).take (sizeT P t)).toArray := by
          simp [List.extract_toArray, List.extract_eq_take_drop]
        rw [e]
        refine .agg _ _ (by simp [hl]) (fun a ha => h1 a (List.mem_of_mem_drop (List.mem_of_mem_take ha))) (fun j a u ha hu => ?_)
        rw [List.getElem?_take] at ha hu
        split at ha
        · rename_i hj
          rw [if_pos hj] at hu
          rw [List.getElem?_drop] at ha hu
          exact hv _ _ _ ha hu
        · cases ha
      · cases h
    | false =>
      simp only at h
      have hlt := (List.getElem?_eq_some_iff.1 h).1
      refine ⟨vs[off]'(by omega), ?_, hv off _ _ h (List.getElem?_eq_getElem (by omega))⟩
      simp [part, run_isAggT hg, List.getElem?_eq_getElem (show off < vs.length by omega)]
theorem sound_eq1 (d : Nat) (t : TypeId) {a b : AVal} {r : Bool} {u v : Value} (hu : RV C a u) (hv : RV C b v) (h : aeq1 P t a b = some r) : (Op.equalIn (d + 1) t u v).run P C.w = .ok r C.w := by
  cases a <;> cases b <;> simp only [aeq1] at h <;> try (cases h; done)
  · obtain rfl := hu.int_inv
    obtain rfl := hv.int_inv
    split at h
    · rename_i k' hd
      split at h
      · rename_i hk
        injection h with h; subst h hk
        exact run_equalIn_int _ d t _ k' _ _ hd
      · cases h
    · cases h
  · obtain rfl := hu.bool_inv
    obtain rfl := hv.bool_inv
    split at h
    · rename_i hd
      injection h with h; subst h
      exact run_equalIn_bool' _ d t _ _ hd
    · cases h
  · obtain rfl := hu.str_inv
    obtain rfl := hv.str_inv
    split at h
    · rename_i hd
      injection h with h; subst h
      exact run_equalIn_string _ d t _ _ hd
    · cases h
theorem sound_eqFs (d : Nat) {xs ys : List AVal} {us vs : List Value} (hu : RV C (.agg xs) (.agg us.toArray)) (hv : RV C (.agg ys) (.agg vs.toArray)) : ∀ (l : List Field) {r : Bool}, aeqFs P xs ys l = some r → (Op.eqFields (d + 1) us.toArray vs.toArray l).run P C.w = .ok r C.w := by
  obtain ⟨us', e1, ul, u1, ur⟩ := hu.agg_inv
  injection e1 with e1
  have e1 : us = us' := by simpa using e1
  subst e1
  obtain ⟨vs', e2, vl, v1, vr⟩ := hv.agg_inv
  injection e2 with e2
  have e2 : vs = vs' := by simpa using e2
  subst e2
  intro l
  induction l with
  | nil => intro r h; cases h; rfl
  | cons f l ih =>
    intro r h
    simp only [aeqFs] at h
    simp only [Op.eqFields]
    split at h
    · rename_i hn
      rw [if_pos hn]
      split at h
      · rename_i a b ha hb
        obtain ⟨p, hp, hrp⟩ := sound_pick (P := P) f.type ul u1 ur ha
        obtain ⟨q, hq, hrq⟩ := sound_pick (P := P) f.type vl v1 vr hb
        simp only [Sem.run_bind, hp, hq, Result.andThen_ok]
        split at h
        · rename_i he
          rw [sound_eq1 (P := P) d f.type hrp hrq he]
          simp only [Result.andThen_ok, Bool.not_true, Bool.false_eq_true, if_false]
          exact ih h
        · rename_i he
          cases h
          rw [sound_eq1 (P := P) d f.type hrp hrq he]
          simp only [Result.andThen_ok, Bool.not_false, if_true, Sem.run_pure]
        · cases h
      · cases h
    · rename_i hn
      rw [if_neg hn]
      exact ih h
theorem sound_binT (ds : List Deferred) (op : BinOp) (t : TypeId) (x y : Operand) {a b : AVal} {r : AVal} {u v : Value} (hu : RV C a u) (hv : RV C b v) (h : abinT P t op a b = some r) :
    ∃ z, (do eqGuard op t x y u v; binOp op t u v : Sem Value).run P C.w = .ok z C.w ∧ RV C r z := by
  have key : ∀ (q : Bool), (eqGuard op t x y u v).run P C.w = .ok () C.w → (Op.equal t u v).run P C.w = .ok q C.w → (∀ op', binOp .eql t u v = (do pure (.bool (← Op.equal t u v))) ∧ binOp .neq t u v = (do pure (.bool (!(← Op.equal t u v)))) ∨ op' = op) →
      (op = .eql ∧ r = .bool q ∨ op = .neq ∧ r = .bool !q) → binOp .eql t u v = (do pure (.bool (← Op.equal t u v))) → binOp .neq t u v = (do pure (.bool (!(← Op.equal t u v)))) →
      ∃ z, (do eqGuard op t x y u v; binOp op t u v : Sem Value).run P C.w = .ok z C.w ∧ RV C r z := by
    intro q hg he _ hor e1 e2
    rcases hor with ⟨rfl, rfl⟩ | ⟨rfl, rfl⟩
    · exact ⟨_, by simp only [Sem.run_bind, hg, Result.andThen_ok, e1, he, Sem.run_pure], .bool _⟩
    · exact ⟨_, by simp only [Sem.run_bind, hg, Result.andThen_ok, e2, he, Sem.run_pure], .bool _⟩
  unfold abinT at h
  split at h
  · exact sound_bin ds op t x y hu hv h
  · exact sound_bin ds op t x y hu hv h
  · have hex : ∃ q, aeq P t a b = some q ∧ (op = .eql ∧ r = .bool q ∨ op = .neq ∧ r = .bool !q) := by
      clear key
      cases op <;> simp only at h <;> try (cases h; done)
      · obtain ⟨q, hq, e⟩ := Option.map_eq_some_iff.1 h
        exact ⟨q, hq, .inl ⟨rfl, e.symm⟩⟩
      · obtain ⟨q, hq, e⟩ := Option.map_eq_some_iff.1 h
        exact ⟨q, hq, .inr ⟨rfl, e.symm⟩⟩
    obtain ⟨q, hq, hor⟩ := hex
    unfold aeq at hq
    split at hq
    · rename_i xs ys
      split at hq
      · rename_i fs hd
        split at hq
        · rename_i hc
          obtain ⟨us, rfl, _⟩ := hu.agg_inv
          obtain ⟨vs, rfl, _⟩ := hv.agg_inv
          have hfs : P.fieldsOf t = fs := by unfold Program.fieldsOf; rw [hd]
          have he : (Op.equal t (.agg us.toArray) (.agg vs.toArray)).run P C.w = .ok q C.w := by
            show (Op.equalIn (9999 + 1) t _ _).run P C.w = _
            rw [run_equalIn_struct C.w 9999 t _ _ (by rw [hfs]; exact hd) hc.1, hfs]
            exact sound_eqFs (P := P) 9998 hu hv _ hq
          exact key q (run_eqGuard_agg C.w op t x y _ _ hc.2) he (fun _ => .inl ⟨rfl, rfl⟩) hor rfl rfl
        · cases hq
      · cases hq
    · obtain rfl := hu.bool_inv
      obtain rfl := hv.bool_inv
      have he : (Op.equal t (.bool _) (.bool _)).run P C.w = .ok q C.w := sound_eq1 (P := P) 9999 t hu hv hq
      exact key q (by unfold eqGuard; cases op <;> rfl) he (fun _ => .inl ⟨rfl, rfl⟩) hor rfl rfl
    · cases hq
theorem sound_field (t : TypeId) (f : Nat) {a r : AVal} {u : Value} (hu : RV C a u) (h : afieldv P t a f = some r) : ∃ z, (Instr.field t u f).run P C.w = .ok z C.w ∧ RV C r z := by
  unfold afieldv at h
  cases hd : P.underlying t with
  | none => rw [hd] at h; cases h
  | some d =>
    rw [hd] at h
    cases d <;> (try simp only at h) <;> try (cases h; done)
    cases a <;> (try simp only at h) <;> try (cases h; done)
    rename_i fs cs
    cases hf : fs[f]? with
    | none => rw [hf] at h; cases h
    | some fd =>
      rw [hf] at h
      obtain ⟨vs, rfl, hl, h1, hv⟩ := hu.agg_inv
      obtain ⟨z, hz, hr⟩ := sound_pick (P := P) fd.type hl h1 hv h
      exact ⟨z, by simp [Instr.field, run_underlying hd, hf, asAgg, hz], hr⟩
/-- An element of a list that lies in memory is loaded. -/
theorem sound_load_pel (t : TypeId) {e : AVal} {off : Nat} {r : AVal} {u : Value} (hu : RV C (.pel e off) u) (h : pick P t e.flat off = some r) : ∃ z, (Instr.loadAt t u).run P C.w = .ok z C.w ∧ RV C r z := by
  obtain ⟨b, o, rfl, h1, cu, hm, hr⟩ := hu.pel_inv
  unfold pick at h
  cases hg : isAggT P t with
  | none => rw [hg] at h; cases h
  | some q =>
    rw [hg] at h
    obtain ⟨i, hi⟩ := info_of_agg hg
    cases q with
    | true =>
      simp only at h
      split at h
      · rename_i hle
        injection h with h; subst h
        have hf : ∀ j, j < sizeT P t → C.w.cell? ((⟨b, o + off, none⟩ : Addr).add j) = some (cu (off + j)) := fun j hj => by
          rw [add_at, Nat.add_assoc]
          exact (hm (off + j) _ (List.getElem?_eq_getElem (by omega))).2
        have hrun := run_loadCells (P := P) C.w ⟨b, o + off, none⟩ (sizeT P t) (fun j => cu (off + j)) hf
        refine ⟨.agg ((List.range (sizeT P t)).map fun j => cu (off + j)).toArray, by simp [Instr.loadAt, Instr.sureAddr, loadVar, run_isAggT hg, run_sizeT hi, hrun], ?_⟩
        refine .agg _ _ (by simp; omega) (fun a ha => h1 a (List.mem_of_mem_drop (List.mem_of_mem_take ha))) (fun j a v ha hv => ?_)
        rw [List.getElem?_take] at ha
        split at ha
        · rename_i hj
          rw [List.getElem?_drop] at ha
          rw [List.getElem?_map, List.getElem?_range hj] at hv
          injection hv with hv; subst hv
          exact hr _ _ ha
        · cases ha
      · cases h
    | false =>
      simp only at h
      obtain ⟨_, hc⟩ := hm off _ h
      refine ⟨cu off, ?_, hr off _ h⟩
      simp [Instr.loadAt, Instr.sureAddr, loadVar, run_isAggT hg, run_load, load, hc, Sem.run]
end
end Go.Proofs.YtleimfinniclgaaGreatDoor.M
/- The machine is right, operation by operation (3): structs and slices are built. -/
namespace Go.Proofs.YtleimfinniclgaaGreatDoor.M
open Go.RowKit
set_option linter.unusedVariables false
set_option linter.unusedSimpArgs false

theorem foldl_sets (off : Nat) : ∀ (l : List Value) (n : Nat) (c : Array Value), (l.zipIdx n).foldl (fun cs (p : Value × Nat) => cs.setIfInBounds (off + p.2) p.1) c = setsA c (off + n) l := by
  intro l
  induction l with
  | nil => intro n c; rfl
  | cons v l ih => intro n c; rw [List.zipIdx_cons, List.foldl_cons, ih, setsA]; rfl
theorem fold_sets (off : Nat) (vs c : Array Value) : vs.zipIdx.foldl (fun cs (p : Value × Nat) => cs.setIfInBounds (off + p.2) p.1) c = setsA c off vs.toList := by
  rw [← Array.foldl_toList, Array.toList_zipIdx, foldl_sets]
  rfl
theorem lsets_len (l : List AVal) : ∀ (cs : List AVal) (i : Nat), (lsets cs i l).length = cs.length := by
  induction l with
  | nil => intro c i; rfl
  | cons v l ih => intro c i; rw [lsets, ih, List.length_set]
theorem lsets_get (l : List AVal) : ∀ (c : List AVal) (i j : Nat), (lsets c i l)[j]? = if i ≤ j ∧ j < i + l.length ∧ j < c.length then l[j - i]? else c[j]? := by
  induction l with
  | nil => intro c i j; simp [lsets]; omega
  | cons v l ih =>
    intro c i j
    rw [lsets, ih, List.getElem?_set, List.length_set, List.length_cons]
    by_cases h1 : i + 1 ≤ j ∧ j < i + 1 + l.length ∧ j < c.length
    · rw [if_pos h1, if_pos ⟨by omega, by omega, h1.2.2⟩, show j - i = (j - (i + 1)) + 1 by omega, List.getElem?_cons_succ]
    · rw [if_neg h1]
      by_cases h2 : i = j
      · subst h2
        by_cases h3 : i < c.length
        · rw [if_pos rfl, if_pos h3, if_pos ⟨by omega, by omega, h3⟩]; simp
        · rw [if_pos rfl, if_neg h3, if_neg (by omega), List.getElem?_eq_none (by omega)]
      · rw [if_neg h2, if_neg (by omega)]
section
variable {P : Program} {C : Cx} {B : Nat} {F : Nat → Nat → Prop} {w0 : World} {hp : Heap} {tm : List Cell} {ct : Array Value}

/-- Cells stand for cells. -/
def Rels (C : Cx) (cs : List AVal) (vs : Array Value) : Prop := vs.size = cs.length ∧ ∀ (i : Nat) a, cs[i]? = some a → a.one = true ∧ ∃ u, vs[i]? = some u ∧ RV C a u
/-- A value's own cells. -/
theorem RV.cells {a : AVal} {u : Value} (h : RV C a u) (h1 : a.flat.all AVal.one = true) : Rels C a.flat u.cells := by
  have key : ∀ {a : AVal} {u : Value}, RV C a u → a.one = true → a.flat = [a] → u.cells = #[u] → Rels C a.flat u.cells := by
    intro a u h ho hf hc
    rw [hf, hc]
    refine ⟨rfl, fun i b hb => ?_⟩
    rcases i with _ | i
    · simp at hb; subst hb; exact ⟨ho, u, rfl, h⟩
    · simp at hb
  cases h with
  | agg cs vs hl ho hr =>
    refine ⟨by simpa [Value.cells, AVal.flat] using hl, fun i b hb => ⟨ho b (List.mem_of_getElem? hb), ?_⟩⟩
    have hb' : cs[i]? = some b := hb
    have hlt := (List.getElem?_eq_some_iff.1 hb').1
    exact ⟨vs[i]'(by omega), by simp [Value.cells, List.getElem?_eq_getElem (show i < vs.length by omega)], hr i b _ hb' (List.getElem?_eq_getElem (by omega))⟩
  | tup cs vs hl hr => simp [AVal.flat, AVal.one] at h1
  | bad v => simp [AVal.flat, AVal.one] at h1
  | int k n => exact key (.int k n) rfl rfl rfl
  | bool b => exact key (.bool b) rfl rfl rfl
  | str s => exact key (.str s) rfl rfl rfl
  | lst xs A c sz cu hc hz hs ho hm hr => exact key (.lst xs A c sz cu hc hz hs ho hm hr) rfl rfl rfl
  | ptr id off hid => exact key (.ptr id off hid) rfl rfl rfl
  | pel e off b o cu ho hm hr => exact key (.pel e off b o cu ho hm hr) rfl rfl rfl
  | map id hid => exact key (.map id hid) rfl rfl rfl
  | sl id off len sz c ag hid hc hx => exact key (.sl id off len sz c ag hid hc hx) rfl rfl rfl
  | clo f fs cs fv cv hf hl hr hr' => exact key (.clo f fs cs fv cv hf hl hr hr') rfl rfl rfl
  | nilp => exact key .nilp rfl rfl rfl
  | nilf => exact key .nilf rfl rfl rfl
  | nilm => exact key .nilm rfl rfl rfl
  | nils => exact key .nils rfl rfl rfl
theorem Rels.mk_agg {cs : List AVal} {vs : Array Value} (h : Rels C cs vs) : RV C (.agg cs) (.agg vs) := by
  have := RV.agg (C := C) cs vs.toList (by simpa using h.1) (fun a ha => by
    obtain ⟨i, hi⟩ := List.getElem?_of_mem ha
    exact (h.2 i a hi).1) (fun i a u ha hu => by
    obtain ⟨_, u', hu', hr⟩ := h.2 i a ha
    rw [Array.getElem?_toList] at hu
    rw [hu'] at hu; injection hu with hu; subst hu; exact hr)
  simpa using this
theorem Rels.sets {cs l : List AVal} {vs ws : Array Value} (h : Rels C cs vs) (hl : Rels C l ws) (off : Nat) : Rels C (lsets cs off l) (setsA vs off ws.toList) := by
  refine ⟨by rw [setsA_size, lsets_len]; exact h.1, fun i a ha => ?_⟩
  rw [lsets_get] at ha
  rw [setsA_get]
  have e : ws.toList.length = l.length := by simpa using hl.1
  split at ha
  · rename_i hin
    rw [if_pos (by rw [e, h.1]; exact hin)]
    obtain ⟨h1, u, h2, h3⟩ := hl.2 _ _ ha
    exact ⟨h1, u, by rw [Array.getElem?_toList]; exact h2, h3⟩
  · rename_i hin
    rw [if_neg (by rw [e, h.1]; exact hin)]
    exact h.2 i a ha
theorem fill_sound (place : Nat → Option (Nat × Nat)) : ∀ (ps : List (Nat × AVal)) (qs : List (Nat × Value)) (cs : List AVal) (vs : Array Value) {r : List AVal}, Rels C cs vs → qs.map (·.1) = ps.map (·.1) → (∀ (i : Nat) p q, ps[i]? = some p → qs[i]? = some q → RV C p.2 q.2) → afill place cs ps = some r →
    ∃ ws, Instr.fill place vs qs = some ws ∧ Rels C r ws := by
  intro ps
  induction ps with
  | nil =>
    intro qs cs vs r hr hm _ h
    have : qs = [] := by simpa using hm
    subst this
    injection h with h; subst h
    exact ⟨vs, rfl, hr⟩
  | cons p ps ih =>
    intro qs cs vs r hr hm hrel h
    obtain ⟨i, a⟩ := p
    cases qs with
    | nil => simp at hm
    | cons q qs =>
      obtain ⟨j, u⟩ := q
      simp only [List.map_cons, List.cons.injEq] at hm
      obtain ⟨e, hm⟩ := hm
      subst e
      simp only [afill] at h
      cases hp : place j with
      | none => rw [hp] at h; cases h
      | some on =>
        obtain ⟨off, n⟩ := on
        rw [hp] at h
        simp only at h
        split at h
        · rename_i hc
          have hau : RV C a u := hrel 0 (j, a) (j, u) rfl rfl
          have hcl := hau.cells hc.2.2
          obtain ⟨ws, h1, h2⟩ := ih qs _ _ (hr.sets hcl off) hm (fun i p q hp hq => hrel (i + 1) p q hp hq) h
          refine ⟨ws, ?_, h2⟩
          simp only [Instr.fill, hp]
          rw [if_neg]
          · have := fold_sets off u.cells vs
            rw [← h1]
            congr 1
          · simp only [ne_eq, decide_not, Bool.or_eq_true, Bool.not_eq_eq_eq_not, Bool.not_true, decide_eq_false_iff_not, decide_eq_true_eq, not_or, Decidable.not_not]
            rw [hcl.1, hr.1]
            omega
        · cases h
theorem rels_ofVal {z : Value} {nl : Bool} {cs : List AVal} (h : (if nl then ofValN z else ofVal z) = .agg cs) : Rels C cs z.cells := by
  have h1 : RV C (if nl then ofValN z else ofVal z) z := by split <;> first | exact RV.ofValN z | exact RV.ofVal z
  rw [h] at h1
  have := h1.cells (by
    obtain ⟨vs, _, _, h2, _⟩ := h1.agg_inv
    exact List.all_eq_true.2 fun a ha => h2 a ha)
  exact this
theorem sound_build (nl : Bool) (t : TypeId) (ps : List (Nat × AVal)) (qs : List (Nat × Value)) {r : AVal} (hm : qs.map (·.1) = ps.map (·.1)) (hrel : ∀ (i : Nat) p q, ps[i]? = some p → qs[i]? = some q → RV C p.2 q.2) (h : abuild P nl t ps = some r) :
    ∃ z, (Instr.build t qs.toArray).run P C.w = .ok z C.w ∧ RV C r z := by
  unfold abuild at h
  have key : ∀ cells, P.built t qs = some cells → (Instr.build t qs.toArray).run P C.w = .ok (.agg cells) C.w := fun cells hb => run_build C.w t qs.toArray cells hb
  cases hi : P.info? t with
  | none => rw [hi] at h; cases h
  | some it =>
    rw [hi] at h
    cases hu : P.underlying t with
    | none => rw [hu] at h; cases h
    | some d =>
      rw [hu] at h
      cases d <;> (try simp only at h) <;> try (cases h; done)
      · rename_i n e
        cases hz : it.zero with
        | none => rw [hz] at h; cases h
        | some z =>
          cases hie : P.info? e with
          | none => rw [hz, hie] at h; cases h
          | some ie =>
            rw [hz, hie] at h
            simp only at h
            cases hv : (if nl = true then ofValN z else ofVal z) <;> rw [hv] at h <;> (try simp only at h) <;> try (cases h; done)
            rename_i cs
            obtain ⟨l, hl, rfl⟩ := Option.map_eq_some_iff.1 h
            obtain ⟨ws, h1, h2⟩ := fill_sound _ ps qs cs z.cells (rels_ofVal hv) hm hrel hl
            exact ⟨_, key ws (by simp only [Program.built, hi, hu, hz, hie]; exact h1), h2.mk_agg⟩
      · rename_i fs
        cases hz : it.zero with
        | none => rw [hz] at h; cases h
        | some z =>
          cases hpl : fs.toList.mapM (fun f => (P.info? f.type).map fun i => (f.offset, i.size)) with
          | none => rw [hz, hpl] at h; cases h
          | some places =>
            rw [hz, hpl] at h
            simp only at h
            cases hv : (if nl = true then ofValN z else ofVal z) <;> rw [hv] at h <;> (try simp only at h) <;> try (cases h; done)
            rename_i cs
            obtain ⟨l, hl, rfl⟩ := Option.map_eq_some_iff.1 h
            obtain ⟨ws, h1, h2⟩ := fill_sound _ ps qs cs z.cells (rels_ofVal hv) hm hrel hl
            exact ⟨_, key ws (by simp only [Program.built, hi, hu, hz, hpl]; exact h1), h2.mk_agg⟩
/-- Elements one behind the other: all cells are filled. -/
theorem fill_seq (sz : Nat) : ∀ (qs : List (Nat × Value)) (k : Nat) (c : Array Value), (∀ (i : Nat) q, qs[i]? = some q → q.1 = k + i ∧ q.2.cells.size = sz) → (k + qs.length) * sz ≤ c.size →
    ∃ ws, Instr.fill (fun i => some (i * sz, sz)) c qs = some ws ∧ ws.size = c.size ∧ (∀ p, p < k * sz → ws[p]? = c[p]?) ∧ ∀ (i : Nat) q, qs[i]? = some q → ∀ p, p < sz → ws[(k + i) * sz + p]? = q.2.cells[p]? := by
  intro qs
  induction qs with
  | nil => intro k c _ _; exact ⟨c, rfl, rfl, fun _ _ => rfl, fun i q h => by simp at h⟩
  | cons q qs ih =>
    intro k c hq hk
    obtain ⟨j, u⟩ := q
    obtain ⟨e1, e2⟩ := hq 0 (j, u) rfl
    simp only [Nat.add_zero] at e1 e2
    subst e1
    have hfit : j * sz + sz ≤ c.size := by
      have : (j + 1) * sz ≤ (j + ((j, u) :: qs).length) * sz := Nat.mul_le_mul_right _ (by simp)
      rw [Nat.add_mul, Nat.one_mul] at this
      omega
    obtain ⟨ws, h1, h2, h3, h4⟩ := ih (j + 1) (setsA c (j * sz) u.cells.toList) (fun i q hi => by
      obtain ⟨a, b⟩ := hq (i + 1) q hi
      exact ⟨by omega, b⟩) (by rw [setsA_size]; rw [List.length_cons] at hk; rw [show j + 1 + qs.length = j + (qs.length + 1) by omega]; exact hk)
    refine ⟨ws, ?_, by rw [h2, setsA_size], fun p hp => ?_, fun i q hi p hp => ?_⟩
    · simp only [Instr.fill]
      rw [if_neg]
      · have := fold_sets (j * sz) u.cells c
        rw [← h1]
        congr 1
      · simp only [ne_eq, decide_not, Bool.or_eq_true, Bool.not_eq_eq_eq_not, Bool.not_true, decide_eq_false_iff_not, decide_eq_true_eq, not_or, Decidable.not_not]
        rw [e2]
        omega
    · rw [h3 p (by rw [Nat.add_mul, Nat.one_mul]; omega), setsA_get, if_neg (by omega)]
    · cases i with
      | zero =>
        simp at hi; subst hi
        rw [Nat.add_zero, h3 (j * sz + p) (by rw [Nat.add_mul, Nat.one_mul]; omega), setsA_get, if_pos (by rw [Array.length_toList, e2]; omega), Array.getElem?_toList]
        congr 1
        omega
      | succ i =>
        have := h4 i q hi p hp
        rw [show j + (i + 1) = j + 1 + i by omega]
        exact this
end
end Go.Proofs.YtleimfinniclgaaGreatDoor.M
/- The machine is right, operation by operation (4): memory. -/
namespace Go.Proofs.YtleimfinniclgaaGreatDoor.M
open Go.RowKit
set_option linter.unusedVariables false
set_option linter.unusedSimpArgs false

section
variable {P : Program} {C : Cx} {B : Nat} {F : Nat → Nat → Prop} {w0 : World} {hp : Heap} {tm : List Cell} {ct : Array Value}

theorem done_mk (ds : List Deferred) (dst : Option Tmp) {q : Out} {D : Cx} {n : Next} {u : Value} (hn : n = .value u ∨ (n = .skip ∧ u = undef)) (le : C.Le D) (hx : D.nx = q.nx) (hclr : q.clr = none)
    (hno : dst = none → WRel D B F w0 q.hp tm ct) (hd : ∀ d, dst = some d → WRel D B F w0 q.hp (tm.set d (q.v, q.own)) (ct.setIfInBounds d u)) : Done C B F w0 tm ⟨ct, ds⟩ dst q (.ok n D.w) := by
  refine ⟨D, n, u, rfl, hn, le, hx, ?_, put_defers _ _ _⟩
  cases dst with
  | none => simp only [Out.put, hclr]; exact hno rfl
  | some d => simp only [Out.put, hclr]; exact hd d rfl
theorem seq_fst : ∀ (l : List (Nat × AVal)) (k : Nat), seqParts l k = true → ∀ (i : Nat) p, l[i]? = some p → p.1 = k + i := by
  intro l
  induction l with
  | nil => intro k _ i p h; simp at h
  | cons q l ih =>
    intro k h i p hi
    obtain ⟨j, a⟩ := q
    simp only [seqParts, Bool.and_eq_true, beq_iff_eq] at h
    cases i with
    | zero => simp at hi; subst hi; exact h.1
    | succ i => have := ih (k + 1) h.2 i p hi; omega
theorem flats_at {xs : List AVal} {sz : Nat} (hs : ∀ x, x ∈ xs → x.flat.length = sz) {k : Nat} {e : AVal} (hk : xs[k]? = some e) {j : Nat} (hj : j < sz) : (flats xs)[k * sz + j]? = e.flat[j]? := by
  induction xs generalizing k with
  | nil => simp at hk
  | cons y l ih =>
    have hy := hs y (List.mem_cons_self ..)
    cases k with
    | zero =>
      simp at hk; subst hk
      simp only [flats, List.flatMap_cons, Nat.zero_mul, Nat.zero_add]
      rw [List.getElem?_append_left (by omega)]
    | succ k =>
      simp only [List.getElem?_cons_succ] at hk
      have := ih (fun x hx => hs x (List.mem_cons_of_mem _ hx)) hk
      simp only [flats, List.flatMap_cons]
      rw [List.getElem?_append_right (by rw [hy, Nat.add_mul]; omega), hy, show (k + 1) * sz + j - sz = k * sz + j by rw [Nat.add_mul]; omega]
      exact this
/-- A literal of a slice. -/
theorem sound_buildSlice (h : WRel C B F w0 hp tm ct) (ds : List Deferred) (dst : Option Tmp) (t e : TypeId) (len : Nat) (ps : List (Nat × AVal)) (qs : List (Nat × Value)) (hu : P.underlying t = some (.slice e))
    (hm : qs.map (·.1) = ps.map (·.1)) (hrel : ∀ (i : Nat) p q, ps[i]? = some p → qs[i]? = some q → RV C p.2 q.2) (h1 : seqParts ps 0 = true) (h2 : ps.length = len) (h3 : len * sizeT P e ≤ 2 ^ 24)
    (h4 : ∀ p, p ∈ ps → p.2.flat.length = sizeT P e ∧ p.2.flat.all AVal.one = true) (h5 : 0 < sizeT P e) (hz : zeroT P e = true) (mu ag : Bool) :
    ∃ r, (Instr.buildSlice t len qs.toArray).run P C.w = r ∧ Done C B F w0 tm ⟨ct, ds⟩ dst (if mu then ⟨.sl C.nx 0 len (sizeT P e) ag, false, none, C.nx + 1, (C.nx, .cells (unown (flats (ps.map (·.2))))) :: hp⟩ else ⟨.lst (ps.map (·.2)), true, none, C.nx, hp⟩) (match r with | .ok v w => .ok (.value v) w | .halt x w => .halt x w) := by
  obtain ⟨ie, hie, hsz⟩ := info_of_size h5
  have hql : qs.length = ps.length := by have := congrArg List.length hm; simpa using this
  have hpq : ∀ (i : Nat) q, qs[i]? = some q → ∃ p, ps[i]? = some p ∧ p.1 = q.1 := by
    intro i q hq
    have hlt := (List.getElem?_eq_some_iff.1 hq).1
    refine ⟨ps[i]'(by omega), List.getElem?_eq_getElem (by omega), ?_⟩
    have : (qs.map (·.1))[i]? = (ps.map (·.1))[i]? := by rw [hm]
    rw [List.getElem?_map, List.getElem?_map, hq, List.getElem?_eq_getElem (show i < ps.length by omega)] at this
    simpa using this.symm
  have hcells : ∀ (i : Nat) p q, ps[i]? = some p → qs[i]? = some q → Rels C p.2.flat q.2.cells := fun i p q hp hq => (hrel i p q hp hq).cells (h4 p (List.mem_of_getElem? hp)).2
  obtain ⟨z, hzz⟩ : ∃ z, ie.zero = some z := by
    unfold zeroT at hz
    rw [hie] at hz
    exact Option.isSome_iff_exists.1 hz
  obtain ⟨z0, hz0⟩ : ∃ z0 : Array Value, (len * sizeT P e = 0 ∧ z0 = #[]) ∨ (len * sizeT P e ≠ 0 ∧ z0 = z.cells) := by
    by_cases e0 : len * sizeT P e = 0
    · exact ⟨_, .inl ⟨e0, rfl⟩⟩
    · exact ⟨_, .inr ⟨e0, rfl⟩⟩
  let c0 : Array Value := (Array.range (len * sizeT P e)).map (z0[· % z0.size]!)
  obtain ⟨ws, f1, f2, _, f4⟩ := fill_seq (sizeT P e) qs 0 c0 (fun i q hq => by
    obtain ⟨p, hp, hpe⟩ := hpq i q hq
    refine ⟨by rw [← hpe]; exact seq_fst ps 0 h1 i p hp, ?_⟩
    rw [(hcells i p q hp hq).1]
    exact (h4 p (List.mem_of_getElem? hp)).1) (by simp [c0, hql, h2])
  have hws : ws.size = len * sizeT P e := by rw [f2]; simp [c0]
  have hs : ∀ x, x ∈ ps.map (·.2) → x.flat.length = sizeT P e := fun x hx => by obtain ⟨p, hp, rfl⟩ := List.mem_map.1 hx; exact (h4 p hp).1
  have hrun : (Instr.buildSlice t len qs.toArray).run P C.w = .ok (.slice (some ⟨C.w.heap.size, 0, none⟩) len len) (C.w.alloc (.cells ws e)) := by
    have h3' : ¬ (16777216 < len * sizeT P e) := by omega
    simp only [Instr.buildSlice, Sem.run_bind, run_underlying hu, Result.andThen_ok, run_sizeT hie]
    rw [if_neg (by omega)]
    have f1' : Instr.fill (fun i => some (i * sizeT P e, sizeT P e)) ((Array.range (len * sizeT P e)).map (z0[· % z0.size]!)) qs = some ws := f1
    rcases hz0 with ⟨e0, hz0⟩ | ⟨e0, hz0⟩
    · subst hz0
      rw [if_pos e0]
      simp only [Sem.run_bind, Sem.run_pure, Result.andThen_ok]
      rw [f1']
      simp [newRow]
    · subst hz0
      rw [if_neg e0]
      simp only [Sem.run_bind, zeroValue, typeInfo, run_program, hie, hzz, Sem.run_pure, Result.andThen_ok]
      rw [f1']
      simp [newRow]
  refine ⟨_, rfl, ?_⟩
  rw [hrun]
  have hI := h.heap.imm
  have hlen : (ps.map (·.2)).length = len := by simpa using h2
  have hfl := flats_len hs
  have hv : ∀ (i : Nat) u, (flats (ps.map (·.2)))[i]? = some u → u.one = true ∧ ∃ v, ws[i]? = some v ∧ RV C u v := by
    intro i u hi
    have hlt := (List.getElem?_eq_some_iff.1 hi).1
    rw [hfl, hlen] at hlt
    have hk : i / sizeT P e < len := Nat.div_lt_of_lt_mul (by rw [Nat.mul_comm]; exact hlt)
    have hj : i % sizeT P e < sizeT P e := Nat.mod_lt _ h5
    have ei : i = i / sizeT P e * sizeT P e + i % sizeT P e := by rw [Nat.mul_comm]; exact (Nat.div_add_mod i (sizeT P e)).symm
    have hp := List.getElem?_eq_getElem (l := ps) (i := i / sizeT P e) (by omega)
    have hq := List.getElem?_eq_getElem (l := qs) (i := i / sizeT P e) (by omega)
    have hpm : (ps.map (·.2))[i / sizeT P e]? = some ps[i / sizeT P e].2 := by rw [List.getElem?_map, hp]; rfl
    rw [ei, flats_at hs hpm hj] at hi
    have hr := hcells _ _ _ hp hq
    obtain ⟨r1, v, r2, r3⟩ := hr.2 _ _ hi
    refine ⟨r1, v, ?_, r3⟩
    have := f4 _ _ hq _ hj
    rw [Nat.zero_add, ← ei] at this
    rw [this]; exact r2
  have hone : ∀ u, u ∈ flats (ps.map (·.2)) → u.one = true := fun u hu => by obtain ⟨i, hi⟩ := List.getElem?_of_mem hu; exact (hv i u hi).1
  cases mu with
  | true =>
    have hfl' : (flats (ps.map (·.2))).length = ws.size := by rw [hfl, hlen, hws]
    obtain ⟨hW, _⟩ := h.track (unown (flats (ps.map (·.2)))) ws e (by simp [unown, hfl']) (fun i c hi => by
      simp only [unown, List.getElem?_map] at hi
      obtain ⟨y, hy, rfl⟩ := Option.map_eq_some_iff.1 hi
      obtain ⟨r1, v, r2, r3⟩ := hv i y hy
      exact ⟨r1, v, r2, r3, fun hf => by cases hf⟩)
    have hn : (C.track ws e).ι C.nx = C.w.heap.size := by simp [Cx.track]
    refine done_mk (D := C.track ws e) ds dst (.inl rfl) (h.heap.le (h.heap.grow_track ws e)) rfl rfl (fun _ => hW) (fun d _ => hW.put d ?_)
    have := RV.sl (C := C.track ws e) C.nx 0 len (sizeT P e) len ag (Nat.lt_succ_self _) (Nat.le_refl _) (fun o ho => ⟨ws[o]'(by omega), by
      rw [hn]
      exact (cell_new C.w ws e o).trans (Array.getElem?_eq_getElem (by omega))⟩)
    rw [hn] at this
    exact this
  | false =>
  have hrv := RV.lit (C := C) hI (ps.map (·.2)) (sizeT P e) ws e (fun _ => h5) hs hone (fun i u hi => (hv i u hi).2) len (by omega)
  rw [hlen] at hrv
  have hW := h.grow (grow_lit C ws e hI)
  refine done_mk (D := C.lit ws e) ds dst (.inl rfl) (h.heap.le (grow_lit C ws e hI)) rfl rfl (fun _ => hW) (fun d _ => ?_)
  have hnt : ∀ b o, ¬ Tail (.lst (ps.map (·.2))) (.slice (some ⟨C.w.heap.size, 0, none⟩) len len) b o := fun b o => by
    have := no_tail hs (some ⟨C.w.heap.size, 0, none⟩) b o
    rw [hlen] at this
    exact this
  exact hW.puto d hrv ⟨⟨_, _, _, _, rfl, rfl, fun e0 => by have := congrArg List.length e0; simpa [h2] using this⟩, fun b o ht => absurd ht (hnt b o)⟩ (fun k v' cv' _ _ b o ht => absurd ht (hnt b o))
/-- A new variable. -/
theorem sound_new (h : WRel C B F w0 hp tm ct) (ds : List Deferred) (dst : Option Tmp) (ty : TypeId) (cs : List Cell) (vs : Array Value) (hl : cs.length ≤ vs.size)
    (hc : ∀ (i : Nat) (c : Cell), cs[i]? = some c → c.1.one = true ∧ ∃ v, vs[i]? = some v ∧ RV C c.1 v ∧ Bare c v) :
    Done C B F w0 tm ⟨ct, ds⟩ dst ⟨.ptr C.nx 0, false, none, C.nx + 1, (C.nx, .cells cs) :: hp⟩ (.ok (.value (.pointer (some ⟨C.w.heap.size, 0, none⟩))) (C.w.alloc (.cells vs ty))) := by
  obtain ⟨hW, hr⟩ := h.track cs vs ty hl hc
  exact done_mk (D := C.track vs ty) ds dst (.inl rfl) (h.heap.le (h.heap.grow_track vs ty)) rfl rfl (fun _ => hW) (fun d _ => hW.put d hr)
theorem sound_alloc (h : WRel C B F w0 hp tm ct) (ds : List Deferred) (dst : Option Tmp) (t : TypeId) {z : Value} {i : TypeInfo} (hi : P.info? t = some i) (hz : i.zero = some z) (h1 : (z.cells.toList.map ofCell).all AVal.one = true) :
    ∃ v w, (Instr.alloc t true (.tuple #[])).run P C.w = .ok v w ∧ Done C B F w0 tm ⟨ct, ds⟩ dst ⟨.ptr C.nx 0, false, none, C.nx + 1, (C.nx, .cells (z.cells.toList.map fun c => (ofCell c, isNil c))) :: hp⟩ (.ok (.value v) w) := by
  refine ⟨_, _, by simp [Instr.alloc, zeroValue, typeInfo, hi, hz, newVar, newRow], sound_new h ds dst t _ z.cells (by simp) (fun j c hj => ?_)⟩
  rw [List.getElem?_map, Array.getElem?_toList] at hj
  obtain ⟨u, hu, rfl⟩ := Option.map_eq_some_iff.1 hj
  refine ⟨List.all_eq_true.1 h1 _ (List.mem_map.2 ⟨u, Array.mem_toList_iff.2 (Array.mem_of_getElem? hu), rfl⟩), u, hu, RV.ofCell u, fun hn => ?_⟩
  have := isNil_eq hn
  subst this
  exact ⟨rfl, rfl⟩
theorem sound_box (h : WRel C B F w0 hp tm ct) (ds : List Deferred) (dst : Option Tmp) (t : TypeId) {a : AVal} {u : Value} (hu : RV C a u) (h1 : a.flat.all AVal.one = true) :
    ∃ v w, (Instr.box t u).run P C.w = .ok v w ∧ Done C B F w0 tm ⟨ct, ds⟩ dst (abox a.flat C.nx hp) (.ok (.value v) w) := by
  have hc := hu.cells h1
  refine ⟨_, _, by simp [Instr.box, newVar, newRow], sound_new h ds dst t _ u.cells (by simpa using Nat.le_of_eq hc.1.symm) (fun j c hj => ?_)⟩
  rw [List.getElem?_map] at hj
  obtain ⟨x, hx, rfl⟩ := Option.map_eq_some_iff.1 hj
  obtain ⟨r1, v, r2, r3⟩ := hc.2 j x hx
  exact ⟨r1, v, r2, r3, fun hf => by cases hf⟩
/-- A variable is read. -/
theorem sound_load (h : WRel C B F w0 hp tm ct) (ds : List Deferred) (dst : Option Tmp) (ops : Array Oper) (ro : Md) (t : TypeId) {a : AVal} {u : Value} (hu : RV C a u) {q : Out} (hq : aload P ops ro dst t a C.nx hp = some q) :
    ∃ v, (Instr.loadAt t u).run P C.w = .ok v C.w ∧ Done C B F w0 tm ⟨ct, ds⟩ dst q (.ok (.value v) C.w) := by
  cases a <;> (try simp only [aload] at hq) <;> try (cases hq; done)
  · rename_i id off
    obtain ⟨rfl, hid⟩ := hu.ptr_inv
    cases hg : hget hp id with
    | none => rw [hg] at hq; cases hq
    | some blk =>
      rw [hg] at hq
      cases blk <;> (try simp only at hq) <;> try (cases hq; done)
      rename_i cs
      obtain ⟨vs, ty, hb, hsz, hcs⟩ := h.heap.blk id cs hg
      have hcell : ∀ i, C.w.cell? ⟨C.ι id, i, none⟩ = vs[i]? := fun i => by simp [World.cell?, hb]
      cases hagg : isAggT P t with
      | none => rw [hagg] at hq; cases hq
      | some b =>
        rw [hagg] at hq
        obtain ⟨ti, hti⟩ := info_of_agg hagg
        cases b with
        | true =>
          simp only at hq
          split at hq
          · rename_i hle
            injection hq with hq; subst hq
            have hlv : off + sizeT P t ≤ vs.toList.length := by rw [Array.length_toList]; omega
            have hrun := run_loadCells_list (P := P) C.w ⟨C.ι id, off, none⟩ ((vs.toList.drop off).take (sizeT P t)) (fun j v hj => by
              rw [List.getElem?_take] at hj
              split at hj
              · rw [List.getElem?_drop, Array.getElem?_toList] at hj
                rw [add_at, hcell]; exact hj
              · cases hj)
            have hlen : ((vs.toList.drop off).take (sizeT P t)).length = sizeT P t := by simp; omega
            rw [hlen] at hrun
            refine ⟨.agg ((vs.toList.drop off).take (sizeT P t)).toArray, by simp [Instr.loadAt, Instr.sureAddr, loadVar, run_isAggT hagg, run_sizeT hti, hrun], done_val h ds dst ?_⟩
            refine .agg _ _ (by simp; omega) (fun x hx => ?_) (fun i x v hx hv => ?_)
            · obtain ⟨c, hc, rfl⟩ := List.mem_map.1 hx
              obtain ⟨j, hj⟩ := List.getElem?_of_mem (List.mem_of_mem_drop (List.mem_of_mem_take hc))
              exact (hcs j c hj).1
            · rw [List.getElem?_map, List.getElem?_take] at hx
              rw [List.getElem?_take] at hv
              split at hx
              · rename_i hi
                rw [if_pos hi] at hv
                rw [List.getElem?_drop] at hx hv
                obtain ⟨c, hc, rfl⟩ := Option.map_eq_some_iff.1 hx
                obtain ⟨_, v', h2, h3⟩ := hcs _ c hc
                rw [Array.getElem?_toList, h2] at hv
                injection hv with hv; subst hv; exact h3
              · cases hx
          · cases hq
        | false =>
          simp only at hq
          cases hc : cs[off]? with
          | none => rw [hc] at hq; cases hq
          | some c =>
            rw [hc] at hq
            obtain ⟨x, f⟩ := c
            obtain ⟨_, v, hv, hr⟩ := hcs off _ hc
            have hrun : (Instr.loadAt t (.pointer (some ⟨C.ι id, off, none⟩))).run P C.w = .ok v C.w := by
              simp [Instr.loadAt, Instr.sureAddr, loadVar, run_isAggT hagg, load, Sem.run, hcell, hv]
            refine ⟨v, hrun, ?_⟩
            cases f with
            | false => simp only at hq; injection hq with hq; subst hq; exact done_val h ds dst hr
            | true =>
              simp only at hq
              split at hq
              · rename_i hf
                have hdst : ∃ d, dst = some d := by
                  cases dst with
                  | none => simp [feeds] at hf
                  | some d => exact ⟨d, rfl⟩
                obtain ⟨d, rfl⟩ := hdst
                split at hq
                · rename_i hnl
                  injection hq with hq; subst hq
                  have hx := nilL_eq hnl
                  subst hx
                  refine done_mk ds (some d) (.inl rfl) (Cx.Le.refl C) rfl rfl (fun q => by cases q) (fun d' e => ?_)
                  injection e with e; subst e
                  refine h.puto d hr (h.own (id + 1, off) _ v ⟨cs, vs, ty, hg, hc, hb, hv⟩) (fun k v' cv' _ _ b o ht => ?_)
                  obtain ⟨xs, a, n, c, x, r, h1, _, h3, _⟩ := ht
                  injection h1 with h1
                  rw [← h1] at h3
                  cases h3
                · split at hq
                  · injection hq with hq; subst hq
                    refine done_mk ds (some d) (.inl rfl) (Cx.Le.refl C) rfl rfl (fun q => by cases q) (fun d' e => ?_)
                    injection e with e; subst e
                    exact h.take hg hc (fun vs' ty' hb' => by
                      rw [hb] at hb'; injection hb' with hb'; injection hb' with hb' _; subst hb'; exact hv)
                  · injection hq with hq; subst hq; exact done_val h ds _ hr
              · injection hq with hq; subst hq; exact done_val h ds dst hr
  · rename_i e off
    obtain ⟨r, hr, rfl⟩ := val_some hq
    obtain ⟨z, hz, hrr⟩ := sound_load_pel (P := P) t hu hr
    exact ⟨z, hz, done_val h ds dst hrr⟩
/-- A variable is written. -/
theorem sound_store (h : WRel C B F w0 hp tm ct) (ds : List Deferred) (dst : Option Tmp) (ops : Array Oper) (ro : Md) (t : TypeId) {a : AVal} {u : Value} (hu : RV C a u) (x : Operand) {q : Out} (hq : astore P ops ro t a x (ev tm x) C.nx hp = some q) :
    ∃ w, (Instr.storeAt t u (Act.eval ⟨ct, ds⟩ x)).run P C.w = .ok () w ∧ Done C B F w0 tm ⟨ct, ds⟩ dst q (.ok .skip w) := by
  have hx := h.ev x ds
  generalize hxv : Act.eval ⟨ct, ds⟩ x = xv at hx
  generalize hcx : M.ev tm x = c at hq hx
  cases a <;> (try simp only [astore] at hq) <;> try (cases hq; done)
  rename_i id off
  obtain ⟨rfl, hid⟩ := hu.ptr_inv
  cases hg : hget hp id with
  | none => rw [hg] at hq; cases hq
  | some blk =>
    rw [hg] at hq
    cases blk <;> (try simp only at hq) <;> try (cases hq; done)
    rename_i cs
    have hs : (hget hp id).isSome = true := by rw [hg]; rfl
    obtain ⟨vs, ty, hb, hsz, hcs⟩ := h.heap.blk id cs hg
    split at hq
    · rename_i hcond
      obtain ⟨hro, hz, hl, hoff, h1⟩ := hcond
      obtain ⟨ti, hti, _⟩ := info_of_size hz
      have hc := hx.cells h1
      have hcell : ∀ i, C.w.cell? ⟨C.ι id, i, none⟩ = vs[i]? := fun i => by simp [World.cell?, hb]
      have hrun : (Instr.storeAt t (.pointer (some ⟨C.ι id, off, none⟩)) xv).run P C.w = .ok () (C.stores id off xv.cells.toList).w := by
        have h2 := run_storeCells_cells (P := P) (C.ι id) off xv.cells.toList 0 C.w (fun j hj => by
          rw [Nat.add_zero, hcell, Array.getElem?_eq_getElem (by rw [Array.length_toList, hc.1] at hj; omega)]; rfl) (fun j hj => by simp [World.frozen?, hb]) (fun v hv => by
          obtain ⟨j, hj⟩ := List.getElem?_of_mem hv
          have hjl := (List.getElem?_eq_some_iff.1 hj).1
          rw [Array.length_toList, hc.1] at hjl
          obtain ⟨r1, v', r2, r3⟩ := hc.2 j _ (List.getElem?_eq_getElem hjl)
          rw [Array.getElem?_toList, r2] at hj
          injection hj with hj; subst hj
          exact r3.one_cell r1)
        rw [Nat.add_zero] at h2
        have hsz' : xv.cells.size = sizeT P t := by rw [hc.1, hl]
        simp [Instr.storeAt, Instr.sureAddr, storeVar, run_sizeT hti, hsz', h2, Cx.stores]
      have le := h.heap.le_stores hs off xv.cells.toList
      have hplain : WRel (C.stores id off xv.cells.toList) B F w0 (hset hp id (.cells (setCs cs off (unownS c.1.flat)))) tm ct :=
        h.store hg off (unownS c.1.flat) xv.cells.toList (by simp [unownS, hc.1]) (by simpa [unownS] using hoff) (fun i d hd => by
          simp only [unownS, List.getElem?_map] at hd
          obtain ⟨y, hy, rfl⟩ := Option.map_eq_some_iff.1 hd
          obtain ⟨r1, v, r2, r3⟩ := hc.2 i y hy
          refine ⟨?_, v, by rw [Array.getElem?_toList]; exact r2, ?_⟩
          · cases y <;> first | exact r1 | rfl
          · by_cases hy : y = .nils
            · subst hy
              cases r3
              exact ⟨RV.ofCell (C := C) (.slice none 0 0), fun _ => ⟨rfl, rfl⟩⟩
            · have e : unS y = (y, false) := by cases y <;> first | rfl | exact absurd rfl hy
              rw [e]
              exact ⟨r3, fun hf => by cases hf⟩)
      refine ⟨_, hrun, ?_⟩
      have fin : q = Out.val C.nx (hset hp id (.cells (setCs cs off (unownS c.1.flat)))) (.tup []) → Done C B F w0 tm ⟨ct, ds⟩ dst q (.ok .skip (C.stores id off xv.cells.toList).w) := by
        rintro rfl
        exact done_mk (D := C.stores id off xv.cells.toList) ds dst (u := undef) (.inr ⟨rfl, rfl⟩) le rfl rfl (fun _ => hplain) (fun d _ => hplain.put d (RV.tup [] [] rfl (fun i a v hi => by simp at hi)))
      obtain ⟨y, f⟩ := c
      cases x with
      | global g => injection hq with hq; exact fin hq.symm
      | func g => injection hq with hq; exact fin hq.symm
      | tmp s =>
        cases f with
        | false => injection hq with hq; exact fin hq.symm
        | true =>
          simp only at hq
          split at hq
          · rename_i hmk
            injection hq with hq; subst hq
            have hts : tm[s]? = some (y, true) := by
              simp only [M.ev] at hcx
              cases ht : tm[s]? with
              | none => rw [ht] at hcx; simp at hcx
              | some c => rw [ht] at hcx; simp at hcx; rw [hcx]
            obtain ⟨v, hv, _⟩ := h.tmp s _ hts
            have hev : Act.eval ⟨ct, ds⟩ (.tmp s) = v := by
              have hlt := (Array.getElem?_eq_some_iff.1 hv).1
              have he := (Array.getElem?_eq_some_iff.1 hv).2
              simp [Act.eval, Array.getD, hlt, he]
            rw [hev] at hxv; subst hxv
            have hform := (h.own (0, s) y v ⟨hts, hv⟩).form
            obtain ⟨xs, A, n, cc, e1, e2, _⟩ := hform
            subst e1 e2
            have hW := hplain
            have hcs' : setCs cs off (unownS (AVal.lst xs).flat) = cs.set off (.lst xs, false) := rfl
            rw [hcs'] at hW
            have hoff' : off < cs.length := by simp [AVal.flat] at hoff; omega
            have hget' : hget (hset hp id (.cells (cs.set off (AVal.lst xs, false)))) id = some (.cells (cs.set off (.lst xs, false))) := by rw [hget_hset]; simp [hs]
            have hgive := hW.give (id := id) (off := off) hts hv hget' (by rw [List.getElem?_set_self hoff']) (fun vs' ty' hb' => by
              have : (C.stores id off (Value.slice A n cc).cells.toList).w.heap[C.ι id]? = some (.cells (setsA vs off [Value.slice A n cc]) ty (0, 0)) := setCells_block _ _ _ _ hb
              have hb2 : (C.stores id off (Value.slice A n cc).cells.toList).w.heap[C.ι id]? = some (.cells vs' ty' (0, 0)) := hb'
              rw [this] at hb2; injection hb2 with hb2; injection hb2 with hb2 _; subst hb2
              rw [setsA_get, if_pos ⟨Nat.le_refl _, by simp, by omega⟩]; simp)
            have hss : hset (hset hp id (.cells (cs.set off (AVal.lst xs, false)))) id (.cells ((cs.set off (.lst xs, false)).set off (.lst xs, true))) = hset hp id (.cells (cs.set off (.lst xs, true))) := by
              rw [List.set_set]
              generalize ABlk.cells (cs.set off (AVal.lst xs, false)) = b1
              generalize ABlk.cells (cs.set off (AVal.lst xs, true)) = b2
              clear hget' hW hg hs hplain fin hgive hcs hx hrun le h
              induction hp with
              | nil => rfl
              | cons p hp ih =>
                obtain ⟨i, b⟩ := p
                simp only [hset]
                by_cases e : id = i
                · simp [e, hset]
                · simp [e, hset, ih]
            rw [hss] at hgive
            refine ⟨C.stores id off _, .skip, undef, rfl, .inr ⟨rfl, rfl⟩, le, rfl, ?_, put_defers _ _ _⟩
            cases dst with
            | none => simp only [Out.put, unflag_some hts]; exact hgive
            | some d => simp only [Out.put, unflag_some hts]; exact hgive.put d (RV.tup [] [] rfl (fun i a v hi => by simp at hi))
          · injection hq with hq; exact fin hq.symm
      | const k =>
        by_cases hnil : y = .lst [] ∧ f = true
        · obtain ⟨rfl, rfl⟩ := hnil
          simp only at hq
          injection hq with hq; subst hq
          have hk : k = .slice none 0 0 := by
            simp only [M.ev, Prod.mk.injEq] at hcx
            exact isNil_eq hcx.2
          subst hk
          have hxv' : xv = .slice none 0 0 := hxv.symm
          subst hxv'
          have hW := h.store hg off [(.lst [], true)] [.slice none 0 0] rfl (by simpa [AVal.flat] using hoff) (fun i d hd => by
            rcases i with _ | i
            · simp at hd; subst hd
              exact ⟨rfl, _, rfl, RV.ofCell (C := C) (.slice none 0 0), fun _ => ⟨rfl, rfl⟩⟩
            · simp at hd)
          exact done_mk (D := C.stores id off [.slice none 0 0]) ds dst (u := undef) (.inr ⟨rfl, rfl⟩) le rfl rfl (fun _ => hW) (fun d _ => hW.put d (RV.tup [] [] rfl (fun i a v hi => by simp at hi)))
        · have : some q = some (Out.val C.nx (hset hp id (.cells (setCs cs off (unownS y.flat)))) (.tup [])) := by
            rw [← hq]
            split
            · rename_i e1 e2; cases e1
            · rename_i e1 e2; injection e2 with e2 e3; exact absurd ⟨e2, e3⟩ hnil
            · rfl
          injection this with this
          exact fin this
    · cases hq
end
end Go.Proofs.YtleimfinniclgaaGreatDoor.M
