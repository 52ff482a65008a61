import Derived.Test.YtcbmjgagbfhigaaProg
import Derived.Test.YtcbmjgagbfhigaaXC5
import Derived.KernelRfl
namespace Go.AB.Try
open Go Go.AB Go.Proofs
set_option linter.unusedSimpArgs false
theorem sz0 : szOf Try.prog 0 = some 1 := by kernel_rfl
theorem by0 : byOf Try.prog 0 = some 0 := by kernel_rfl
theorem ag0 : aggOf Try.prog 0 = some false := by kernel_rfl
theorem sz1 : szOf Try.prog 1 = some 1 := by kernel_rfl
theorem by1 : byOf Try.prog 1 = some 8 := by kernel_rfl
theorem ag1 : aggOf Try.prog 1 = some false := by kernel_rfl
theorem zc1 : zcells Try.prog 1 = some ([Value.nilFunc]) := by kernel_rfl
theorem zv1 : zval Try.prog 1 = some (Value.nilFunc) := by kernel_rfl
theorem sz2 : szOf Try.prog 2 = some 1 := by kernel_rfl
theorem by2 : byOf Try.prog 2 = some 8 := by kernel_rfl
theorem ag2 : aggOf Try.prog 2 = some false := by kernel_rfl
theorem zc2 : zcells Try.prog 2 = some ([Value.int .i64 0]) := by kernel_rfl
theorem zv2 : zval Try.prog 2 = some (Value.int .i64 0) := by kernel_rfl
theorem sz3 : szOf Try.prog 3 = some 1 := by kernel_rfl
theorem by3 : byOf Try.prog 3 = some 8 := by kernel_rfl
theorem ag3 : aggOf Try.prog 3 = some false := by kernel_rfl
theorem zc3 : zcells Try.prog 3 = some ([Value.int .i64 0]) := by kernel_rfl
theorem zv3 : zval Try.prog 3 = some (Value.int .i64 0) := by kernel_rfl
theorem sz4 : szOf Try.prog 4 = some 1 := by kernel_rfl
theorem by4 : byOf Try.prog 4 = some 1 := by kernel_rfl
theorem ag4 : aggOf Try.prog 4 = some false := by kernel_rfl
theorem zc4 : zcells Try.prog 4 = some ([Value.bool false]) := by kernel_rfl
theorem zv4 : zval Try.prog 4 = some (Value.bool false) := by kernel_rfl
theorem sz5 : szOf Try.prog 5 = some 1 := by kernel_rfl
theorem by5 : byOf Try.prog 5 = some 1 := by kernel_rfl
theorem ag5 : aggOf Try.prog 5 = some false := by kernel_rfl
theorem zc5 : zcells Try.prog 5 = some ([Value.int .u8 0]) := by kernel_rfl
theorem zv5 : zval Try.prog 5 = some (Value.int .u8 0) := by kernel_rfl
theorem sz9 : szOf Try.prog 9 = some 1 := by kernel_rfl
theorem by9 : byOf Try.prog 9 = some 16 := by kernel_rfl
theorem ag9 : aggOf Try.prog 9 = some false := by kernel_rfl
theorem zc9 : zcells Try.prog 9 = some ([Value.string ⟨#[]⟩]) := by kernel_rfl
theorem zv9 : zval Try.prog 9 = some (Value.string ⟨#[]⟩) := by kernel_rfl
theorem sz12 : szOf Try.prog 12 = some 1 := by kernel_rfl
theorem by12 : byOf Try.prog 12 = some 8 := by kernel_rfl
theorem ag12 : aggOf Try.prog 12 = some false := by kernel_rfl
theorem zc12 : zcells Try.prog 12 = some ([Value.int .u64 0]) := by kernel_rfl
theorem zv12 : zval Try.prog 12 = some (Value.int .u64 0) := by kernel_rfl
theorem sz13 : szOf Try.prog 13 = some 2 := by kernel_rfl
theorem by13 : byOf Try.prog 13 = some 24 := by kernel_rfl
theorem ag13 : aggOf Try.prog 13 = some true := by kernel_rfl
theorem zc13 : zcells Try.prog 13 = some ([Value.string ⟨#[]⟩, Value.int .u64 0]) := by kernel_rfl
theorem zv13 : zval Try.prog 13 = some (Value.agg ⟨[Value.string ⟨#[]⟩, Value.int .u64 0]⟩) := by kernel_rfl
theorem fl13_0 : fldOf Try.prog 13 0 = some (0, 9) := by kernel_rfl
theorem fl13_1 : fldOf Try.prog 13 1 = some (1, 12) := by kernel_rfl
theorem pl13 : places Try.prog 13 = some [(0, 1), (1, 1)] := by kernel_rfl
theorem sz19 : szOf Try.prog 19 = some 1 := by kernel_rfl
theorem by19 : byOf Try.prog 19 = some 8 := by kernel_rfl
theorem ag19 : aggOf Try.prog 19 = some true := by kernel_rfl
theorem zc19 : zcells Try.prog 19 = some ([Value.pointer none]) := by kernel_rfl
theorem zv19 : zval Try.prog 19 = some (Value.agg ⟨[Value.pointer none]⟩) := by kernel_rfl
theorem fl19_0 : fldOf Try.prog 19 0 = some (0, 17) := by kernel_rfl
theorem pl19 : places Try.prog 19 = some [(0, 1)] := by kernel_rfl
theorem me19_Error : methOf Try.prog 19 "Error" = some (105, false) := by kernel_rfl
theorem me19_RuntimeError : methOf Try.prog 19 "RuntimeError" = some (106, false) := by kernel_rfl
theorem sz20 : szOf Try.prog 20 = some 1 := by kernel_rfl
theorem by20 : byOf Try.prog 20 = some 16 := by kernel_rfl
theorem ag20 : aggOf Try.prog 20 = some false := by kernel_rfl
theorem zc20 : zcells Try.prog 20 = some ([Value.nilIface]) := by kernel_rfl
theorem zv20 : zval Try.prog 20 = some (Value.nilIface) := by kernel_rfl
theorem sz21 : szOf Try.prog 21 = some 1 := by kernel_rfl
theorem by21 : byOf Try.prog 21 = some 4 := by kernel_rfl
theorem ag21 : aggOf Try.prog 21 = some false := by kernel_rfl
theorem zc21 : zcells Try.prog 21 = some ([Value.int .i32 0]) := by kernel_rfl
theorem zv21 : zval Try.prog 21 = some (Value.int .i32 0) := by kernel_rfl
theorem sz22 : szOf Try.prog 22 = some 1 := by kernel_rfl
theorem by22 : byOf Try.prog 22 = some 8 := by kernel_rfl
theorem ag22 : aggOf Try.prog 22 = some false := by kernel_rfl
theorem zc22 : zcells Try.prog 22 = some ([Value.pointer none]) := by kernel_rfl
theorem zv22 : zval Try.prog 22 = some (Value.pointer none) := by kernel_rfl
theorem me22_Add : methOf Try.prog 22 "Add" = some (20, true) := by kernel_rfl
theorem me22_Before : methOf Try.prog 22 "Before" = some (16, true) := by kernel_rfl
theorem me22_Copy : methOf Try.prog 22 "Copy" = some (24, true) := by kernel_rfl
theorem me22_Has : methOf Try.prog 22 "Has" = some (23, true) := by kernel_rfl
theorem me22_Lines : methOf Try.prog 22 "Lines" = some (22, true) := by kernel_rfl
theorem me22_Remove : methOf Try.prog 22 "Remove" = some (21, true) := by kernel_rfl
theorem me22_ahead : methOf Try.prog 22 "redwax/graph.ahead" = some (52, true) := by kernel_rfl
theorem me22_behind : methOf Try.prog 22 "redwax/graph.behind" = some (40, true) := by kernel_rfl
theorem me22_count : methOf Try.prog 22 "redwax/graph.count" = some (51, true) := by kernel_rfl
theorem me22_is : methOf Try.prog 22 "redwax/graph.is" = some (41, true) := by kernel_rfl
theorem me22_line : methOf Try.prog 22 "redwax/graph.line" = some (46, true) := by kernel_rfl
theorem me22_link : methOf Try.prog 22 "redwax/graph.link" = some (72, true) := by kernel_rfl
theorem me22_links : methOf Try.prog 22 "redwax/graph.links" = some (50, true) := by kernel_rfl
theorem me22_there : methOf Try.prog 22 "redwax/graph.there" = some (42, true) := by kernel_rfl
theorem sz23 : szOf Try.prog 23 = some 1 := by kernel_rfl
theorem by23 : byOf Try.prog 23 = some 8 := by kernel_rfl
theorem ag23 : aggOf Try.prog 23 = some false := by kernel_rfl
theorem zc23 : zcells Try.prog 23 = some ([Value.nilFunc]) := by kernel_rfl
theorem zv23 : zval Try.prog 23 = some (Value.nilFunc) := by kernel_rfl
theorem sz24 : szOf Try.prog 24 = some 32 := by kernel_rfl
theorem by24 : byOf Try.prog 24 = some 32 := by kernel_rfl
theorem ag24 : aggOf Try.prog 24 = some true := by kernel_rfl
theorem zc24 : zcells Try.prog 24 = some (List.replicate 32 (Value.int .u8 0)) := by kernel_rfl
theorem zv24 : zval Try.prog 24 = some (Value.agg ⟨List.replicate 32 (Value.int .u8 0)⟩) := by kernel_rfl
theorem ar24 : arrOf Try.prog 24 = some (32, 5) := by kernel_rfl
theorem sz25 : szOf Try.prog 25 = some 32 := by kernel_rfl
theorem by25 : byOf Try.prog 25 = some 32 := by kernel_rfl
theorem ag25 : aggOf Try.prog 25 = some true := by kernel_rfl
theorem zc25 : zcells Try.prog 25 = some (List.replicate 32 (Value.int .u8 0)) := by kernel_rfl
theorem zv25 : zval Try.prog 25 = some (Value.agg ⟨List.replicate 32 (Value.int .u8 0)⟩) := by kernel_rfl
theorem ar25 : arrOf Try.prog 25 = some (32, 5) := by kernel_rfl
theorem sz26 : szOf Try.prog 26 = some 33 := by kernel_rfl
theorem by26 : byOf Try.prog 26 = some 40 := by kernel_rfl
theorem ag26 : aggOf Try.prog 26 = some true := by kernel_rfl
theorem zc26 : zcells Try.prog 26 = some (List.replicate 32 (Value.int .u8 0) ++ [Value.int .i64 0]) := by kernel_rfl
theorem zv26 : zval Try.prog 26 = some (Value.agg ⟨List.replicate 32 (Value.int .u8 0) ++ [Value.int .i64 0]⟩) := by kernel_rfl
theorem fl26_0 : fldOf Try.prog 26 0 = some (0, 25) := by kernel_rfl
theorem fl26_1 : fldOf Try.prog 26 1 = some (32, 3) := by kernel_rfl
theorem pl26 : places Try.prog 26 = some [(0, 32), (32, 1)] := by kernel_rfl
theorem sz27 : szOf Try.prog 27 = some 33 := by kernel_rfl
theorem by27 : byOf Try.prog 27 = some 40 := by kernel_rfl
theorem ag27 : aggOf Try.prog 27 = some true := by kernel_rfl
theorem zc27 : zcells Try.prog 27 = some (List.replicate 32 (Value.int .u8 0) ++ [Value.int .i64 0]) := by kernel_rfl
theorem zv27 : zval Try.prog 27 = some (Value.agg ⟨List.replicate 32 (Value.int .u8 0) ++ [Value.int .i64 0]⟩) := by kernel_rfl
theorem fl27_0 : fldOf Try.prog 27 0 = some (0, 25) := by kernel_rfl
theorem fl27_1 : fldOf Try.prog 27 1 = some (32, 3) := by kernel_rfl
theorem pl27 : places Try.prog 27 = some [(0, 32), (32, 1)] := by kernel_rfl
theorem sz28 : szOf Try.prog 28 = some 1 := by kernel_rfl
theorem by28 : byOf Try.prog 28 = some 24 := by kernel_rfl
theorem ag28 : aggOf Try.prog 28 = some false := by kernel_rfl
theorem zc28 : zcells Try.prog 28 = some ([Value.slice none 0 0]) := by kernel_rfl
theorem zv28 : zval Try.prog 28 = some (Value.slice none 0 0) := by kernel_rfl
theorem sl28 : sliceOf Try.prog 28 = some 9 := by kernel_rfl
theorem sz29 : szOf Try.prog 29 = some 1 := by kernel_rfl
theorem by29 : byOf Try.prog 29 = some 24 := by kernel_rfl
theorem ag29 : aggOf Try.prog 29 = some false := by kernel_rfl
theorem zc29 : zcells Try.prog 29 = some ([Value.slice none 0 0]) := by kernel_rfl
theorem zv29 : zval Try.prog 29 = some (Value.slice none 0 0) := by kernel_rfl
theorem sl29 : sliceOf Try.prog 29 = some 27 := by kernel_rfl
theorem sz30 : szOf Try.prog 30 = some 102 := by kernel_rfl
theorem by30 : byOf Try.prog 30 = some 176 := by kernel_rfl
theorem ag30 : aggOf Try.prog 30 = some true := by kernel_rfl
theorem zc30 : zcells Try.prog 30 = some (List.replicate 32 (Value.int .u8 0) ++ [Value.int .i64 0, Value.int .i64 0] ++ List.replicate 32 (Value.int .u8 0) ++ [Value.int .i64 0] ++ List.replicate 32 (Value.int .u8 0) ++ [Value.int .i64 0, Value.slice none 0 0, Value.slice none 0 0]) := by kernel_rfl
theorem zv30 : zval Try.prog 30 = some (Value.agg ⟨List.replicate 32 (Value.int .u8 0) ++ [Value.int .i64 0, Value.int .i64 0] ++ List.replicate 32 (Value.int .u8 0) ++ [Value.int .i64 0] ++ List.replicate 32 (Value.int .u8 0) ++ [Value.int .i64 0, Value.slice none 0 0, Value.slice none 0 0]⟩) := by kernel_rfl
theorem fl30_0 : fldOf Try.prog 30 0 = some (0, 25) := by kernel_rfl
theorem fl30_1 : fldOf Try.prog 30 1 = some (32, 3) := by kernel_rfl
theorem fl30_2 : fldOf Try.prog 30 2 = some (33, 3) := by kernel_rfl
theorem fl30_3 : fldOf Try.prog 30 3 = some (34, 27) := by kernel_rfl
theorem fl30_4 : fldOf Try.prog 30 4 = some (67, 27) := by kernel_rfl
theorem fl30_5 : fldOf Try.prog 30 5 = some (100, 28) := by kernel_rfl
theorem fl30_6 : fldOf Try.prog 30 6 = some (101, 29) := by kernel_rfl
theorem pl30 : places Try.prog 30 = some [(0, 32), (32, 1), (33, 1), (34, 33), (67, 33), (100, 1), (101, 1)] := by kernel_rfl
theorem sz31 : szOf Try.prog 31 = some 102 := by kernel_rfl
theorem by31 : byOf Try.prog 31 = some 176 := by kernel_rfl
theorem ag31 : aggOf Try.prog 31 = some true := by kernel_rfl
theorem zc31 : zcells Try.prog 31 = some (List.replicate 32 (Value.int .u8 0) ++ [Value.int .i64 0, Value.int .i64 0] ++ List.replicate 32 (Value.int .u8 0) ++ [Value.int .i64 0] ++ List.replicate 32 (Value.int .u8 0) ++ [Value.int .i64 0, Value.slice none 0 0, Value.slice none 0 0]) := by kernel_rfl
theorem zv31 : zval Try.prog 31 = some (Value.agg ⟨List.replicate 32 (Value.int .u8 0) ++ [Value.int .i64 0, Value.int .i64 0] ++ List.replicate 32 (Value.int .u8 0) ++ [Value.int .i64 0] ++ List.replicate 32 (Value.int .u8 0) ++ [Value.int .i64 0, Value.slice none 0 0, Value.slice none 0 0]⟩) := by kernel_rfl
theorem fl31_0 : fldOf Try.prog 31 0 = some (0, 25) := by kernel_rfl
theorem fl31_1 : fldOf Try.prog 31 1 = some (32, 3) := by kernel_rfl
theorem fl31_2 : fldOf Try.prog 31 2 = some (33, 3) := by kernel_rfl
theorem fl31_3 : fldOf Try.prog 31 3 = some (34, 27) := by kernel_rfl
theorem fl31_4 : fldOf Try.prog 31 4 = some (67, 27) := by kernel_rfl
theorem fl31_5 : fldOf Try.prog 31 5 = some (100, 28) := by kernel_rfl
theorem fl31_6 : fldOf Try.prog 31 6 = some (101, 29) := by kernel_rfl
theorem pl31 : places Try.prog 31 = some [(0, 32), (32, 1), (33, 1), (34, 33), (67, 33), (100, 1), (101, 1)] := by kernel_rfl
theorem me31_formed : methOf Try.prog 31 "redwax/graph.formed" = some (43, false) := by kernel_rfl
theorem me31_vertex : methOf Try.prog 31 "redwax/graph.vertex" = some (49, false) := by kernel_rfl
theorem sz32 : szOf Try.prog 32 = some 1 := by kernel_rfl
theorem by32 : byOf Try.prog 32 = some 8 := by kernel_rfl
theorem ag32 : aggOf Try.prog 32 = some false := by kernel_rfl
theorem zc32 : zcells Try.prog 32 = some ([Value.nilFunc]) := by kernel_rfl
theorem zv32 : zval Try.prog 32 = some (Value.nilFunc) := by kernel_rfl
theorem sz33 : szOf Try.prog 33 = some 1 := by kernel_rfl
theorem by33 : byOf Try.prog 33 = some 8 := by kernel_rfl
theorem ag33 : aggOf Try.prog 33 = some false := by kernel_rfl
theorem zc33 : zcells Try.prog 33 = some ([Value.nilFunc]) := by kernel_rfl
theorem zv33 : zval Try.prog 33 = some (Value.nilFunc) := by kernel_rfl
theorem sz34 : szOf Try.prog 34 = some 1 := by kernel_rfl
theorem by34 : byOf Try.prog 34 = some 8 := by kernel_rfl
theorem ag34 : aggOf Try.prog 34 = some false := by kernel_rfl
theorem zc34 : zcells Try.prog 34 = some ([Value.map none]) := by kernel_rfl
theorem zv34 : zval Try.prog 34 = some (Value.map none) := by kernel_rfl
theorem mp34 : mapOf Try.prog 34 = some (87, 31) := by kernel_rfl
theorem sz35 : szOf Try.prog 35 = some 1 := by kernel_rfl
theorem by35 : byOf Try.prog 35 = some 8 := by kernel_rfl
theorem ag35 : aggOf Try.prog 35 = some false := by kernel_rfl
theorem zc35 : zcells Try.prog 35 = some ([Value.map none]) := by kernel_rfl
theorem zv35 : zval Try.prog 35 = some (Value.map none) := by kernel_rfl
theorem mp35 : mapOf Try.prog 35 = some (27, 89) := by kernel_rfl
theorem sz36 : szOf Try.prog 36 = some 4 := by kernel_rfl
theorem by36 : byOf Try.prog 36 = some 48 := by kernel_rfl
theorem ag36 : aggOf Try.prog 36 = some true := by kernel_rfl
theorem zc36 : zcells Try.prog 36 = some ([Value.bool false, Value.map none, Value.map none, Value.slice none 0 0]) := by kernel_rfl
theorem zv36 : zval Try.prog 36 = some (Value.agg ⟨[Value.bool false, Value.map none, Value.map none, Value.slice none 0 0]⟩) := by kernel_rfl
theorem fl36_0 : fldOf Try.prog 36 0 = some (0, 4) := by kernel_rfl
theorem fl36_1 : fldOf Try.prog 36 1 = some (1, 34) := by kernel_rfl
theorem fl36_2 : fldOf Try.prog 36 2 = some (2, 35) := by kernel_rfl
theorem fl36_3 : fldOf Try.prog 36 3 = some (3, 29) := by kernel_rfl
theorem pl36 : places Try.prog 36 = some [(0, 1), (1, 1), (2, 1), (3, 1)] := by kernel_rfl
theorem sz37 : szOf Try.prog 37 = some 4 := by kernel_rfl
theorem by37 : byOf Try.prog 37 = some 48 := by kernel_rfl
theorem ag37 : aggOf Try.prog 37 = some true := by kernel_rfl
theorem zc37 : zcells Try.prog 37 = some ([Value.bool false, Value.map none, Value.map none, Value.slice none 0 0]) := by kernel_rfl
theorem zv37 : zval Try.prog 37 = some (Value.agg ⟨[Value.bool false, Value.map none, Value.map none, Value.slice none 0 0]⟩) := by kernel_rfl
theorem fl37_0 : fldOf Try.prog 37 0 = some (0, 4) := by kernel_rfl
theorem fl37_1 : fldOf Try.prog 37 1 = some (1, 34) := by kernel_rfl
theorem fl37_2 : fldOf Try.prog 37 2 = some (2, 35) := by kernel_rfl
theorem fl37_3 : fldOf Try.prog 37 3 = some (3, 29) := by kernel_rfl
theorem pl37 : places Try.prog 37 = some [(0, 1), (1, 1), (2, 1), (3, 1)] := by kernel_rfl
theorem sz38 : szOf Try.prog 38 = some 1 := by kernel_rfl
theorem by38 : byOf Try.prog 38 = some 8 := by kernel_rfl
theorem ag38 : aggOf Try.prog 38 = some false := by kernel_rfl
theorem zc38 : zcells Try.prog 38 = some ([Value.nilFunc]) := by kernel_rfl
theorem zv38 : zval Try.prog 38 = some (Value.nilFunc) := by kernel_rfl
theorem sz39 : szOf Try.prog 39 = some 1 := by kernel_rfl
theorem by39 : byOf Try.prog 39 = some 8 := by kernel_rfl
theorem ag39 : aggOf Try.prog 39 = some false := by kernel_rfl
theorem zc39 : zcells Try.prog 39 = some ([Value.nilFunc]) := by kernel_rfl
theorem zv39 : zval Try.prog 39 = some (Value.nilFunc) := by kernel_rfl
theorem sz40 : szOf Try.prog 40 = some 1 := by kernel_rfl
theorem by40 : byOf Try.prog 40 = some 8 := by kernel_rfl
theorem ag40 : aggOf Try.prog 40 = some false := by kernel_rfl
theorem zc40 : zcells Try.prog 40 = some ([Value.nilFunc]) := by kernel_rfl
theorem zv40 : zval Try.prog 40 = some (Value.nilFunc) := by kernel_rfl
theorem sz41 : szOf Try.prog 41 = some 1 := by kernel_rfl
theorem by41 : byOf Try.prog 41 = some 8 := by kernel_rfl
theorem ag41 : aggOf Try.prog 41 = some false := by kernel_rfl
theorem zc41 : zcells Try.prog 41 = some ([Value.nilFunc]) := by kernel_rfl
theorem zv41 : zval Try.prog 41 = some (Value.nilFunc) := by kernel_rfl
theorem sz42 : szOf Try.prog 42 = some 1 := by kernel_rfl
theorem by42 : byOf Try.prog 42 = some 8 := by kernel_rfl
theorem ag42 : aggOf Try.prog 42 = some false := by kernel_rfl
theorem zc42 : zcells Try.prog 42 = some ([Value.int .i64 0]) := by kernel_rfl
theorem zv42 : zval Try.prog 42 = some (Value.int .i64 0) := by kernel_rfl
theorem sz43 : szOf Try.prog 43 = some 1 := by kernel_rfl
theorem by43 : byOf Try.prog 43 = some 8 := by kernel_rfl
theorem ag43 : aggOf Try.prog 43 = some false := by kernel_rfl
theorem zc43 : zcells Try.prog 43 = some ([Value.nilFunc]) := by kernel_rfl
theorem zv43 : zval Try.prog 43 = some (Value.nilFunc) := by kernel_rfl
theorem sz44 : szOf Try.prog 44 = some 1 := by kernel_rfl
theorem by44 : byOf Try.prog 44 = some 8 := by kernel_rfl
theorem ag44 : aggOf Try.prog 44 = some false := by kernel_rfl
theorem zc44 : zcells Try.prog 44 = some ([Value.nilFunc]) := by kernel_rfl
theorem zv44 : zval Try.prog 44 = some (Value.nilFunc) := by kernel_rfl
theorem sz45 : szOf Try.prog 45 = some 1 := by kernel_rfl
theorem by45 : byOf Try.prog 45 = some 8 := by kernel_rfl
theorem ag45 : aggOf Try.prog 45 = some false := by kernel_rfl
theorem zc45 : zcells Try.prog 45 = some ([Value.nilFunc]) := by kernel_rfl
theorem zv45 : zval Try.prog 45 = some (Value.nilFunc) := by kernel_rfl
theorem sz46 : szOf Try.prog 46 = some 1 := by kernel_rfl
theorem by46 : byOf Try.prog 46 = some 24 := by kernel_rfl
theorem ag46 : aggOf Try.prog 46 = some false := by kernel_rfl
theorem zc46 : zcells Try.prog 46 = some ([Value.slice none 0 0]) := by kernel_rfl
theorem zv46 : zval Try.prog 46 = some (Value.slice none 0 0) := by kernel_rfl
theorem sl46 : sliceOf Try.prog 46 = some 69 := by kernel_rfl
theorem sz47 : szOf Try.prog 47 = some 1 := by kernel_rfl
theorem by47 : byOf Try.prog 47 = some 8 := by kernel_rfl
theorem ag47 : aggOf Try.prog 47 = some false := by kernel_rfl
theorem zc47 : zcells Try.prog 47 = some ([Value.nilFunc]) := by kernel_rfl
theorem zv47 : zval Try.prog 47 = some (Value.nilFunc) := by kernel_rfl
theorem sz48 : szOf Try.prog 48 = some 1 := by kernel_rfl
theorem by48 : byOf Try.prog 48 = some 8 := by kernel_rfl
theorem ag48 : aggOf Try.prog 48 = some false := by kernel_rfl
theorem zc48 : zcells Try.prog 48 = some ([Value.nilFunc]) := by kernel_rfl
theorem zv48 : zval Try.prog 48 = some (Value.nilFunc) := by kernel_rfl
theorem sz49 : szOf Try.prog 49 = some 1 := by kernel_rfl
theorem by49 : byOf Try.prog 49 = some 24 := by kernel_rfl
theorem ag49 : aggOf Try.prog 49 = some false := by kernel_rfl
theorem zc49 : zcells Try.prog 49 = some ([Value.slice none 0 0]) := by kernel_rfl
theorem zv49 : zval Try.prog 49 = some (Value.slice none 0 0) := by kernel_rfl
theorem sl49 : sliceOf Try.prog 49 = some 31 := by kernel_rfl
theorem sz50 : szOf Try.prog 50 = some 1 := by kernel_rfl
theorem by50 : byOf Try.prog 50 = some 8 := by kernel_rfl
theorem ag50 : aggOf Try.prog 50 = some false := by kernel_rfl
theorem zc50 : zcells Try.prog 50 = some ([Value.nilFunc]) := by kernel_rfl
theorem zv50 : zval Try.prog 50 = some (Value.nilFunc) := by kernel_rfl
theorem sz51 : szOf Try.prog 51 = some 1 := by kernel_rfl
theorem by51 : byOf Try.prog 51 = some 24 := by kernel_rfl
theorem ag51 : aggOf Try.prog 51 = some false := by kernel_rfl
theorem zc51 : zcells Try.prog 51 = some ([Value.slice none 0 0]) := by kernel_rfl
theorem zv51 : zval Try.prog 51 = some (Value.slice none 0 0) := by kernel_rfl
theorem sl51 : sliceOf Try.prog 51 = some 106 := by kernel_rfl
theorem sz52 : szOf Try.prog 52 = some 1 := by kernel_rfl
theorem by52 : byOf Try.prog 52 = some 0 := by kernel_rfl
theorem ag52 : aggOf Try.prog 52 = some false := by kernel_rfl
theorem sz53 : szOf Try.prog 53 = some 1 := by kernel_rfl
theorem by53 : byOf Try.prog 53 = some 8 := by kernel_rfl
theorem ag53 : aggOf Try.prog 53 = some false := by kernel_rfl
theorem zc53 : zcells Try.prog 53 = some ([Value.nilFunc]) := by kernel_rfl
theorem zv53 : zval Try.prog 53 = some (Value.nilFunc) := by kernel_rfl
theorem sz54 : szOf Try.prog 54 = some 1 := by kernel_rfl
theorem by54 : byOf Try.prog 54 = some 24 := by kernel_rfl
theorem ag54 : aggOf Try.prog 54 = some false := by kernel_rfl
theorem zc54 : zcells Try.prog 54 = some ([Value.slice none 0 0]) := by kernel_rfl
theorem zv54 : zval Try.prog 54 = some (Value.slice none 0 0) := by kernel_rfl
theorem sl54 : sliceOf Try.prog 54 = some 63 := by kernel_rfl
theorem sz55 : szOf Try.prog 55 = some 1 := by kernel_rfl
theorem by55 : byOf Try.prog 55 = some 8 := by kernel_rfl
theorem ag55 : aggOf Try.prog 55 = some false := by kernel_rfl
theorem zc55 : zcells Try.prog 55 = some ([Value.nilFunc]) := by kernel_rfl
theorem zv55 : zval Try.prog 55 = some (Value.nilFunc) := by kernel_rfl
theorem sz56 : szOf Try.prog 56 = some 1 := by kernel_rfl
theorem by56 : byOf Try.prog 56 = some 24 := by kernel_rfl
theorem ag56 : aggOf Try.prog 56 = some false := by kernel_rfl
theorem zc56 : zcells Try.prog 56 = some ([Value.slice none 0 0]) := by kernel_rfl
theorem zv56 : zval Try.prog 56 = some (Value.slice none 0 0) := by kernel_rfl
theorem sl56 : sliceOf Try.prog 56 = some 66 := by kernel_rfl
theorem sz57 : szOf Try.prog 57 = some 1 := by kernel_rfl
theorem by57 : byOf Try.prog 57 = some 8 := by kernel_rfl
theorem ag57 : aggOf Try.prog 57 = some false := by kernel_rfl
theorem zc57 : zcells Try.prog 57 = some ([Value.nilFunc]) := by kernel_rfl
theorem zv57 : zval Try.prog 57 = some (Value.nilFunc) := by kernel_rfl
theorem sz58 : szOf Try.prog 58 = some 1 := by kernel_rfl
theorem by58 : byOf Try.prog 58 = some 8 := by kernel_rfl
theorem ag58 : aggOf Try.prog 58 = some false := by kernel_rfl
theorem zc58 : zcells Try.prog 58 = some ([Value.nilFunc]) := by kernel_rfl
theorem zv58 : zval Try.prog 58 = some (Value.nilFunc) := by kernel_rfl
theorem sz59 : szOf Try.prog 59 = some 1 := by kernel_rfl
theorem by59 : byOf Try.prog 59 = some 8 := by kernel_rfl
theorem ag59 : aggOf Try.prog 59 = some false := by kernel_rfl
theorem zc59 : zcells Try.prog 59 = some ([Value.nilFunc]) := by kernel_rfl
theorem zv59 : zval Try.prog 59 = some (Value.nilFunc) := by kernel_rfl
theorem sz60 : szOf Try.prog 60 = some 1 := by kernel_rfl
theorem by60 : byOf Try.prog 60 = some 8 := by kernel_rfl
theorem ag60 : aggOf Try.prog 60 = some false := by kernel_rfl
theorem zc60 : zcells Try.prog 60 = some ([Value.nilFunc]) := by kernel_rfl
theorem zv60 : zval Try.prog 60 = some (Value.nilFunc) := by kernel_rfl
theorem sz61 : szOf Try.prog 61 = some 1 := by kernel_rfl
theorem by61 : byOf Try.prog 61 = some 24 := by kernel_rfl
theorem ag61 : aggOf Try.prog 61 = some false := by kernel_rfl
theorem zc61 : zcells Try.prog 61 = some ([Value.slice none 0 0]) := by kernel_rfl
theorem zv61 : zval Try.prog 61 = some (Value.slice none 0 0) := by kernel_rfl
theorem sl61 : sliceOf Try.prog 61 = some 3 := by kernel_rfl
theorem sz62 : szOf Try.prog 62 = some 3 := by kernel_rfl
theorem by62 : byOf Try.prog 62 = some 56 := by kernel_rfl
theorem ag62 : aggOf Try.prog 62 = some true := by kernel_rfl
theorem zc62 : zcells Try.prog 62 = some ([Value.slice none 0 0, Value.bool false, Value.slice none 0 0]) := by kernel_rfl
theorem zv62 : zval Try.prog 62 = some (Value.agg ⟨[Value.slice none 0 0, Value.bool false, Value.slice none 0 0]⟩) := by kernel_rfl
theorem fl62_0 : fldOf Try.prog 62 0 = some (0, 46) := by kernel_rfl
theorem fl62_1 : fldOf Try.prog 62 1 = some (1, 4) := by kernel_rfl
theorem fl62_2 : fldOf Try.prog 62 2 = some (2, 61) := by kernel_rfl
theorem pl62 : places Try.prog 62 = some [(0, 1), (1, 1), (2, 1)] := by kernel_rfl
theorem sz63 : szOf Try.prog 63 = some 3 := by kernel_rfl
theorem by63 : byOf Try.prog 63 = some 56 := by kernel_rfl
theorem ag63 : aggOf Try.prog 63 = some true := by kernel_rfl
theorem zc63 : zcells Try.prog 63 = some ([Value.slice none 0 0, Value.bool false, Value.slice none 0 0]) := by kernel_rfl
theorem zv63 : zval Try.prog 63 = some (Value.agg ⟨[Value.slice none 0 0, Value.bool false, Value.slice none 0 0]⟩) := by kernel_rfl
theorem fl63_0 : fldOf Try.prog 63 0 = some (0, 46) := by kernel_rfl
theorem fl63_1 : fldOf Try.prog 63 1 = some (1, 4) := by kernel_rfl
theorem fl63_2 : fldOf Try.prog 63 2 = some (2, 61) := by kernel_rfl
theorem pl63 : places Try.prog 63 = some [(0, 1), (1, 1), (2, 1)] := by kernel_rfl
theorem sz64 : szOf Try.prog 64 = some 1 := by kernel_rfl
theorem by64 : byOf Try.prog 64 = some 24 := by kernel_rfl
theorem ag64 : aggOf Try.prog 64 = some false := by kernel_rfl
theorem zc64 : zcells Try.prog 64 = some ([Value.slice none 0 0]) := by kernel_rfl
theorem zv64 : zval Try.prog 64 = some (Value.slice none 0 0) := by kernel_rfl
theorem sl64 : sliceOf Try.prog 64 = some 70 := by kernel_rfl
theorem sz65 : szOf Try.prog 65 = some 3 := by kernel_rfl
theorem by65 : byOf Try.prog 65 = some 56 := by kernel_rfl
theorem ag65 : aggOf Try.prog 65 = some true := by kernel_rfl
theorem zc65 : zcells Try.prog 65 = some ([Value.slice none 0 0, Value.bool false, Value.slice none 0 0]) := by kernel_rfl
theorem zv65 : zval Try.prog 65 = some (Value.agg ⟨[Value.slice none 0 0, Value.bool false, Value.slice none 0 0]⟩) := by kernel_rfl
theorem fl65_0 : fldOf Try.prog 65 0 = some (0, 64) := by kernel_rfl
theorem fl65_1 : fldOf Try.prog 65 1 = some (1, 4) := by kernel_rfl
theorem fl65_2 : fldOf Try.prog 65 2 = some (2, 61) := by kernel_rfl
theorem pl65 : places Try.prog 65 = some [(0, 1), (1, 1), (2, 1)] := by kernel_rfl
theorem sz66 : szOf Try.prog 66 = some 3 := by kernel_rfl
theorem by66 : byOf Try.prog 66 = some 56 := by kernel_rfl
theorem ag66 : aggOf Try.prog 66 = some true := by kernel_rfl
theorem zc66 : zcells Try.prog 66 = some ([Value.slice none 0 0, Value.bool false, Value.slice none 0 0]) := by kernel_rfl
theorem zv66 : zval Try.prog 66 = some (Value.agg ⟨[Value.slice none 0 0, Value.bool false, Value.slice none 0 0]⟩) := by kernel_rfl
theorem fl66_0 : fldOf Try.prog 66 0 = some (0, 64) := by kernel_rfl
theorem fl66_1 : fldOf Try.prog 66 1 = some (1, 4) := by kernel_rfl
theorem fl66_2 : fldOf Try.prog 66 2 = some (2, 61) := by kernel_rfl
theorem pl66 : places Try.prog 66 = some [(0, 1), (1, 1), (2, 1)] := by kernel_rfl
theorem sz67 : szOf Try.prog 67 = some 1 := by kernel_rfl
theorem by67 : byOf Try.prog 67 = some 8 := by kernel_rfl
theorem ag67 : aggOf Try.prog 67 = some false := by kernel_rfl
theorem zc67 : zcells Try.prog 67 = some ([Value.nilFunc]) := by kernel_rfl
theorem zv67 : zval Try.prog 67 = some (Value.nilFunc) := by kernel_rfl
theorem sz68 : szOf Try.prog 68 = some 35 := by kernel_rfl
theorem by68 : byOf Try.prog 68 = some 64 := by kernel_rfl
theorem ag68 : aggOf Try.prog 68 = some true := by kernel_rfl
theorem zc68 : zcells Try.prog 68 = some (List.replicate 32 (Value.int .u8 0) ++ [Value.int .i64 0, Value.string ⟨#[]⟩, Value.bool false]) := by kernel_rfl
theorem zv68 : zval Try.prog 68 = some (Value.agg ⟨List.replicate 32 (Value.int .u8 0) ++ [Value.int .i64 0, Value.string ⟨#[]⟩, Value.bool false]⟩) := by kernel_rfl
theorem fl68_0 : fldOf Try.prog 68 0 = some (0, 27) := by kernel_rfl
theorem fl68_1 : fldOf Try.prog 68 1 = some (33, 9) := by kernel_rfl
theorem fl68_2 : fldOf Try.prog 68 2 = some (34, 4) := by kernel_rfl
theorem pl68 : places Try.prog 68 = some [(0, 33), (33, 1), (34, 1)] := by kernel_rfl
theorem sz69 : szOf Try.prog 69 = some 35 := by kernel_rfl
theorem by69 : byOf Try.prog 69 = some 64 := by kernel_rfl
theorem ag69 : aggOf Try.prog 69 = some true := by kernel_rfl
theorem zc69 : zcells Try.prog 69 = some (List.replicate 32 (Value.int .u8 0) ++ [Value.int .i64 0, Value.string ⟨#[]⟩, Value.bool false]) := by kernel_rfl
theorem zv69 : zval Try.prog 69 = some (Value.agg ⟨List.replicate 32 (Value.int .u8 0) ++ [Value.int .i64 0, Value.string ⟨#[]⟩, Value.bool false]⟩) := by kernel_rfl
theorem fl69_0 : fldOf Try.prog 69 0 = some (0, 27) := by kernel_rfl
theorem fl69_1 : fldOf Try.prog 69 1 = some (33, 9) := by kernel_rfl
theorem fl69_2 : fldOf Try.prog 69 2 = some (34, 4) := by kernel_rfl
theorem pl69 : places Try.prog 69 = some [(0, 33), (33, 1), (34, 1)] := by kernel_rfl
theorem sz70 : szOf Try.prog 70 = some 35 := by kernel_rfl
theorem by70 : byOf Try.prog 70 = some 64 := by kernel_rfl
theorem ag70 : aggOf Try.prog 70 = some true := by kernel_rfl
theorem zc70 : zcells Try.prog 70 = some (List.replicate 32 (Value.int .u8 0) ++ [Value.int .i64 0, Value.string ⟨#[]⟩, Value.bool false]) := by kernel_rfl
theorem zv70 : zval Try.prog 70 = some (Value.agg ⟨List.replicate 32 (Value.int .u8 0) ++ [Value.int .i64 0, Value.string ⟨#[]⟩, Value.bool false]⟩) := by kernel_rfl
theorem fl70_0 : fldOf Try.prog 70 0 = some (0, 27) := by kernel_rfl
theorem fl70_1 : fldOf Try.prog 70 1 = some (33, 9) := by kernel_rfl
theorem fl70_2 : fldOf Try.prog 70 2 = some (34, 4) := by kernel_rfl
theorem pl70 : places Try.prog 70 = some [(0, 33), (33, 1), (34, 1)] := by kernel_rfl
theorem sz71 : szOf Try.prog 71 = some 1 := by kernel_rfl
theorem by71 : byOf Try.prog 71 = some 8 := by kernel_rfl
theorem ag71 : aggOf Try.prog 71 = some false := by kernel_rfl
theorem zc71 : zcells Try.prog 71 = some ([Value.nilFunc]) := by kernel_rfl
theorem zv71 : zval Try.prog 71 = some (Value.nilFunc) := by kernel_rfl
theorem sz72 : szOf Try.prog 72 = some 1 := by kernel_rfl
theorem by72 : byOf Try.prog 72 = some 8 := by kernel_rfl
theorem ag72 : aggOf Try.prog 72 = some false := by kernel_rfl
theorem zc72 : zcells Try.prog 72 = some ([Value.nilFunc]) := by kernel_rfl
theorem zv72 : zval Try.prog 72 = some (Value.nilFunc) := by kernel_rfl
theorem sz73 : szOf Try.prog 73 = some 1 := by kernel_rfl
theorem by73 : byOf Try.prog 73 = some 8 := by kernel_rfl
theorem ag73 : aggOf Try.prog 73 = some false := by kernel_rfl
theorem zc73 : zcells Try.prog 73 = some ([Value.nilFunc]) := by kernel_rfl
theorem zv73 : zval Try.prog 73 = some (Value.nilFunc) := by kernel_rfl
theorem sz74 : szOf Try.prog 74 = some 1 := by kernel_rfl
theorem by74 : byOf Try.prog 74 = some 0 := by kernel_rfl
theorem ag74 : aggOf Try.prog 74 = some false := by kernel_rfl
theorem sz75 : szOf Try.prog 75 = some 1 := by kernel_rfl
theorem by75 : byOf Try.prog 75 = some 8 := by kernel_rfl
theorem ag75 : aggOf Try.prog 75 = some false := by kernel_rfl
theorem zc75 : zcells Try.prog 75 = some ([Value.nilFunc]) := by kernel_rfl
theorem zv75 : zval Try.prog 75 = some (Value.nilFunc) := by kernel_rfl
theorem sz76 : szOf Try.prog 76 = some 1 := by kernel_rfl
theorem by76 : byOf Try.prog 76 = some 8 := by kernel_rfl
theorem ag76 : aggOf Try.prog 76 = some false := by kernel_rfl
theorem zc76 : zcells Try.prog 76 = some ([Value.nilFunc]) := by kernel_rfl
theorem zv76 : zval Try.prog 76 = some (Value.nilFunc) := by kernel_rfl
theorem sz77 : szOf Try.prog 77 = some 0 := by kernel_rfl
theorem by77 : byOf Try.prog 77 = some 0 := by kernel_rfl
theorem ag77 : aggOf Try.prog 77 = some true := by kernel_rfl
theorem zc77 : zcells Try.prog 77 = some ([]) := by kernel_rfl
theorem zv77 : zval Try.prog 77 = some (Value.agg ⟨[]⟩) := by kernel_rfl
theorem pl77 : places Try.prog 77 = some [] := by kernel_rfl
theorem sz78 : szOf Try.prog 78 = some 0 := by kernel_rfl
theorem by78 : byOf Try.prog 78 = some 0 := by kernel_rfl
theorem ag78 : aggOf Try.prog 78 = some true := by kernel_rfl
theorem zc78 : zcells Try.prog 78 = some ([]) := by kernel_rfl
theorem zv78 : zval Try.prog 78 = some (Value.agg ⟨[]⟩) := by kernel_rfl
theorem pl78 : places Try.prog 78 = some [] := by kernel_rfl
theorem sz79 : szOf Try.prog 79 = some 1 := by kernel_rfl
theorem by79 : byOf Try.prog 79 = some 8 := by kernel_rfl
theorem ag79 : aggOf Try.prog 79 = some false := by kernel_rfl
theorem zc79 : zcells Try.prog 79 = some ([Value.map none]) := by kernel_rfl
theorem zv79 : zval Try.prog 79 = some (Value.map none) := by kernel_rfl
theorem mp79 : mapOf Try.prog 79 = some (27, 78) := by kernel_rfl
theorem sz80 : szOf Try.prog 80 = some 1 := by kernel_rfl
theorem by80 : byOf Try.prog 80 = some 8 := by kernel_rfl
theorem ag80 : aggOf Try.prog 80 = some false := by kernel_rfl
theorem zc80 : zcells Try.prog 80 = some ([Value.nilFunc]) := by kernel_rfl
theorem zv80 : zval Try.prog 80 = some (Value.nilFunc) := by kernel_rfl
theorem sz81 : szOf Try.prog 81 = some 1 := by kernel_rfl
theorem by81 : byOf Try.prog 81 = some 0 := by kernel_rfl
theorem ag81 : aggOf Try.prog 81 = some false := by kernel_rfl
theorem sz82 : szOf Try.prog 82 = some 1 := by kernel_rfl
theorem by82 : byOf Try.prog 82 = some 8 := by kernel_rfl
theorem ag82 : aggOf Try.prog 82 = some false := by kernel_rfl
theorem zc82 : zcells Try.prog 82 = some ([Value.nilFunc]) := by kernel_rfl
theorem zv82 : zval Try.prog 82 = some (Value.nilFunc) := by kernel_rfl
theorem sz83 : szOf Try.prog 83 = some 1 := by kernel_rfl
theorem by83 : byOf Try.prog 83 = some 8 := by kernel_rfl
theorem ag83 : aggOf Try.prog 83 = some false := by kernel_rfl
theorem zc83 : zcells Try.prog 83 = some ([Value.nilFunc]) := by kernel_rfl
theorem zv83 : zval Try.prog 83 = some (Value.nilFunc) := by kernel_rfl
theorem sz84 : szOf Try.prog 84 = some 1 := by kernel_rfl
theorem by84 : byOf Try.prog 84 = some 8 := by kernel_rfl
theorem ag84 : aggOf Try.prog 84 = some false := by kernel_rfl
theorem zc84 : zcells Try.prog 84 = some ([Value.nilFunc]) := by kernel_rfl
theorem zv84 : zval Try.prog 84 = some (Value.nilFunc) := by kernel_rfl
theorem sz85 : szOf Try.prog 85 = some 1 := by kernel_rfl
theorem by85 : byOf Try.prog 85 = some 8 := by kernel_rfl
theorem ag85 : aggOf Try.prog 85 = some false := by kernel_rfl
theorem zc85 : zcells Try.prog 85 = some ([Value.nilFunc]) := by kernel_rfl
theorem zv85 : zval Try.prog 85 = some (Value.nilFunc) := by kernel_rfl
theorem sz86 : szOf Try.prog 86 = some 33 := by kernel_rfl
theorem by86 : byOf Try.prog 86 = some 40 := by kernel_rfl
theorem ag86 : aggOf Try.prog 86 = some true := by kernel_rfl
theorem zc86 : zcells Try.prog 86 = some (List.replicate 32 (Value.int .u8 0) ++ [Value.int .i64 0]) := by kernel_rfl
theorem zv86 : zval Try.prog 86 = some (Value.agg ⟨List.replicate 32 (Value.int .u8 0) ++ [Value.int .i64 0]⟩) := by kernel_rfl
theorem fl86_0 : fldOf Try.prog 86 0 = some (0, 25) := by kernel_rfl
theorem fl86_1 : fldOf Try.prog 86 1 = some (32, 3) := by kernel_rfl
theorem pl86 : places Try.prog 86 = some [(0, 32), (32, 1)] := by kernel_rfl
theorem sz87 : szOf Try.prog 87 = some 33 := by kernel_rfl
theorem by87 : byOf Try.prog 87 = some 40 := by kernel_rfl
theorem ag87 : aggOf Try.prog 87 = some true := by kernel_rfl
theorem zc87 : zcells Try.prog 87 = some (List.replicate 32 (Value.int .u8 0) ++ [Value.int .i64 0]) := by kernel_rfl
theorem zv87 : zval Try.prog 87 = some (Value.agg ⟨List.replicate 32 (Value.int .u8 0) ++ [Value.int .i64 0]⟩) := by kernel_rfl
theorem fl87_0 : fldOf Try.prog 87 0 = some (0, 25) := by kernel_rfl
theorem fl87_1 : fldOf Try.prog 87 1 = some (32, 3) := by kernel_rfl
theorem pl87 : places Try.prog 87 = some [(0, 32), (32, 1)] := by kernel_rfl
theorem sz88 : szOf Try.prog 88 = some 4 := by kernel_rfl
theorem by88 : byOf Try.prog 88 = some 56 := by kernel_rfl
theorem ag88 : aggOf Try.prog 88 = some true := by kernel_rfl
theorem zc88 : zcells Try.prog 88 = some ([Value.string ⟨#[]⟩, Value.int .i64 0, Value.int .i64 0, Value.slice none 0 0]) := by kernel_rfl
theorem zv88 : zval Try.prog 88 = some (Value.agg ⟨[Value.string ⟨#[]⟩, Value.int .i64 0, Value.int .i64 0, Value.slice none 0 0]⟩) := by kernel_rfl
theorem fl88_0 : fldOf Try.prog 88 0 = some (0, 9) := by kernel_rfl
theorem fl88_1 : fldOf Try.prog 88 1 = some (1, 3) := by kernel_rfl
theorem fl88_2 : fldOf Try.prog 88 2 = some (2, 3) := by kernel_rfl
theorem fl88_3 : fldOf Try.prog 88 3 = some (3, 29) := by kernel_rfl
theorem pl88 : places Try.prog 88 = some [(0, 1), (1, 1), (2, 1), (3, 1)] := by kernel_rfl
theorem sz89 : szOf Try.prog 89 = some 4 := by kernel_rfl
theorem by89 : byOf Try.prog 89 = some 56 := by kernel_rfl
theorem ag89 : aggOf Try.prog 89 = some true := by kernel_rfl
theorem zc89 : zcells Try.prog 89 = some ([Value.string ⟨#[]⟩, Value.int .i64 0, Value.int .i64 0, Value.slice none 0 0]) := by kernel_rfl
theorem zv89 : zval Try.prog 89 = some (Value.agg ⟨[Value.string ⟨#[]⟩, Value.int .i64 0, Value.int .i64 0, Value.slice none 0 0]⟩) := by kernel_rfl
theorem fl89_0 : fldOf Try.prog 89 0 = some (0, 9) := by kernel_rfl
theorem fl89_1 : fldOf Try.prog 89 1 = some (1, 3) := by kernel_rfl
theorem fl89_2 : fldOf Try.prog 89 2 = some (2, 3) := by kernel_rfl
theorem fl89_3 : fldOf Try.prog 89 3 = some (3, 29) := by kernel_rfl
theorem pl89 : places Try.prog 89 = some [(0, 1), (1, 1), (2, 1), (3, 1)] := by kernel_rfl
theorem sz90 : szOf Try.prog 90 = some 1 := by kernel_rfl
theorem by90 : byOf Try.prog 90 = some 8 := by kernel_rfl
theorem ag90 : aggOf Try.prog 90 = some false := by kernel_rfl
theorem zc90 : zcells Try.prog 90 = some ([Value.nilFunc]) := by kernel_rfl
theorem zv90 : zval Try.prog 90 = some (Value.nilFunc) := by kernel_rfl
theorem sz91 : szOf Try.prog 91 = some 1 := by kernel_rfl
theorem by91 : byOf Try.prog 91 = some 8 := by kernel_rfl
theorem ag91 : aggOf Try.prog 91 = some false := by kernel_rfl
theorem zc91 : zcells Try.prog 91 = some ([Value.nilFunc]) := by kernel_rfl
theorem zv91 : zval Try.prog 91 = some (Value.nilFunc) := by kernel_rfl
theorem sz92 : szOf Try.prog 92 = some 1 := by kernel_rfl
theorem by92 : byOf Try.prog 92 = some 8 := by kernel_rfl
theorem ag92 : aggOf Try.prog 92 = some false := by kernel_rfl
theorem zc92 : zcells Try.prog 92 = some ([Value.nilFunc]) := by kernel_rfl
theorem zv92 : zval Try.prog 92 = some (Value.nilFunc) := by kernel_rfl
theorem sz93 : szOf Try.prog 93 = some 1 := by kernel_rfl
theorem by93 : byOf Try.prog 93 = some 0 := by kernel_rfl
theorem ag93 : aggOf Try.prog 93 = some false := by kernel_rfl
theorem sz94 : szOf Try.prog 94 = some 1 := by kernel_rfl
theorem by94 : byOf Try.prog 94 = some 8 := by kernel_rfl
theorem ag94 : aggOf Try.prog 94 = some false := by kernel_rfl
theorem zc94 : zcells Try.prog 94 = some ([Value.map none]) := by kernel_rfl
theorem zv94 : zval Try.prog 94 = some (Value.map none) := by kernel_rfl
theorem mp94 : mapOf Try.prog 94 = some (27, 3) := by kernel_rfl
theorem sz95 : szOf Try.prog 95 = some 1 := by kernel_rfl
theorem by95 : byOf Try.prog 95 = some 8 := by kernel_rfl
theorem ag95 : aggOf Try.prog 95 = some false := by kernel_rfl
theorem zc95 : zcells Try.prog 95 = some ([Value.nilFunc]) := by kernel_rfl
theorem zv95 : zval Try.prog 95 = some (Value.nilFunc) := by kernel_rfl
theorem sz96 : szOf Try.prog 96 = some 1 := by kernel_rfl
theorem by96 : byOf Try.prog 96 = some 8 := by kernel_rfl
theorem ag96 : aggOf Try.prog 96 = some false := by kernel_rfl
theorem zc96 : zcells Try.prog 96 = some ([Value.pointer none]) := by kernel_rfl
theorem zv96 : zval Try.prog 96 = some (Value.pointer none) := by kernel_rfl
theorem me96_Len : methOf Try.prog 96 "Len" = some (54, false) := by kernel_rfl
theorem me96_Less : methOf Try.prog 96 "Less" = some (107, false) := by kernel_rfl
theorem me96_Pop : methOf Try.prog 96 "Pop" = some (108, true) := by kernel_rfl
theorem me96_Push : methOf Try.prog 96 "Push" = some (109, true) := by kernel_rfl
theorem me96_Swap : methOf Try.prog 96 "Swap" = some (110, false) := by kernel_rfl
theorem sz97 : szOf Try.prog 97 = some 1 := by kernel_rfl
theorem by97 : byOf Try.prog 97 = some 24 := by kernel_rfl
theorem ag97 : aggOf Try.prog 97 = some false := by kernel_rfl
theorem zc97 : zcells Try.prog 97 = some ([Value.slice none 0 0]) := by kernel_rfl
theorem zv97 : zval Try.prog 97 = some (Value.slice none 0 0) := by kernel_rfl
theorem sl97 : sliceOf Try.prog 97 = some 27 := by kernel_rfl
theorem me97_Len : methOf Try.prog 97 "Len" = some (54, false) := by kernel_rfl
theorem me97_Less : methOf Try.prog 97 "Less" = some (107, false) := by kernel_rfl
theorem me97_Swap : methOf Try.prog 97 "Swap" = some (110, false) := by kernel_rfl
theorem sz98 : szOf Try.prog 98 = some 1 := by kernel_rfl
theorem by98 : byOf Try.prog 98 = some 8 := by kernel_rfl
theorem ag98 : aggOf Try.prog 98 = some false := by kernel_rfl
theorem zc98 : zcells Try.prog 98 = some ([Value.nilFunc]) := by kernel_rfl
theorem zv98 : zval Try.prog 98 = some (Value.nilFunc) := by kernel_rfl
theorem sz99 : szOf Try.prog 99 = some 1 := by kernel_rfl
theorem by99 : byOf Try.prog 99 = some 8 := by kernel_rfl
theorem ag99 : aggOf Try.prog 99 = some false := by kernel_rfl
theorem zc99 : zcells Try.prog 99 = some ([Value.nilFunc]) := by kernel_rfl
theorem zv99 : zval Try.prog 99 = some (Value.nilFunc) := by kernel_rfl
theorem sz100 : szOf Try.prog 100 = some 1 := by kernel_rfl
theorem by100 : byOf Try.prog 100 = some 0 := by kernel_rfl
theorem ag100 : aggOf Try.prog 100 = some false := by kernel_rfl
theorem sz101 : szOf Try.prog 101 = some 1 := by kernel_rfl
theorem by101 : byOf Try.prog 101 = some 8 := by kernel_rfl
theorem ag101 : aggOf Try.prog 101 = some false := by kernel_rfl
theorem zc101 : zcells Try.prog 101 = some ([Value.nilFunc]) := by kernel_rfl
theorem zv101 : zval Try.prog 101 = some (Value.nilFunc) := by kernel_rfl
theorem sz102 : szOf Try.prog 102 = some 1 := by kernel_rfl
theorem by102 : byOf Try.prog 102 = some 8 := by kernel_rfl
theorem ag102 : aggOf Try.prog 102 = some false := by kernel_rfl
theorem zc102 : zcells Try.prog 102 = some ([Value.nilFunc]) := by kernel_rfl
theorem zv102 : zval Try.prog 102 = some (Value.nilFunc) := by kernel_rfl
theorem sz103 : szOf Try.prog 103 = some 1 := by kernel_rfl
theorem by103 : byOf Try.prog 103 = some 8 := by kernel_rfl
theorem ag103 : aggOf Try.prog 103 = some false := by kernel_rfl
theorem zc103 : zcells Try.prog 103 = some ([Value.nilFunc]) := by kernel_rfl
theorem zv103 : zval Try.prog 103 = some (Value.nilFunc) := by kernel_rfl
theorem sz104 : szOf Try.prog 104 = some 1 := by kernel_rfl
theorem by104 : byOf Try.prog 104 = some 0 := by kernel_rfl
theorem ag104 : aggOf Try.prog 104 = some false := by kernel_rfl
theorem sz105 : szOf Try.prog 105 = some 1 := by kernel_rfl
theorem by105 : byOf Try.prog 105 = some 8 := by kernel_rfl
theorem ag105 : aggOf Try.prog 105 = some false := by kernel_rfl
theorem zc105 : zcells Try.prog 105 = some ([Value.nilFunc]) := by kernel_rfl
theorem zv105 : zval Try.prog 105 = some (Value.nilFunc) := by kernel_rfl
theorem sz106 : szOf Try.prog 106 = some 102 := by kernel_rfl
theorem by106 : byOf Try.prog 106 = some 176 := by kernel_rfl
theorem ag106 : aggOf Try.prog 106 = some true := by kernel_rfl
theorem zc106 : zcells Try.prog 106 = some (List.replicate 32 (Value.int .u8 0) ++ [Value.int .i64 0, Value.int .i64 0] ++ List.replicate 32 (Value.int .u8 0) ++ [Value.int .i64 0] ++ List.replicate 32 (Value.int .u8 0) ++ [Value.int .i64 0, Value.slice none 0 0, Value.slice none 0 0]) := by kernel_rfl
theorem zv106 : zval Try.prog 106 = some (Value.agg ⟨List.replicate 32 (Value.int .u8 0) ++ [Value.int .i64 0, Value.int .i64 0] ++ List.replicate 32 (Value.int .u8 0) ++ [Value.int .i64 0] ++ List.replicate 32 (Value.int .u8 0) ++ [Value.int .i64 0, Value.slice none 0 0, Value.slice none 0 0]⟩) := by kernel_rfl
theorem fl106_0 : fldOf Try.prog 106 0 = some (0, 25) := by kernel_rfl
theorem fl106_1 : fldOf Try.prog 106 1 = some (32, 3) := by kernel_rfl
theorem fl106_2 : fldOf Try.prog 106 2 = some (33, 3) := by kernel_rfl
theorem fl106_3 : fldOf Try.prog 106 3 = some (34, 27) := by kernel_rfl
theorem fl106_4 : fldOf Try.prog 106 4 = some (67, 27) := by kernel_rfl
theorem fl106_5 : fldOf Try.prog 106 5 = some (100, 28) := by kernel_rfl
theorem fl106_6 : fldOf Try.prog 106 6 = some (101, 29) := by kernel_rfl
theorem pl106 : places Try.prog 106 = some [(0, 32), (32, 1), (33, 1), (34, 33), (67, 33), (100, 1), (101, 1)] := by kernel_rfl
theorem sz107 : szOf Try.prog 107 = some 1 := by kernel_rfl
theorem by107 : byOf Try.prog 107 = some 8 := by kernel_rfl
theorem ag107 : aggOf Try.prog 107 = some false := by kernel_rfl
theorem zc107 : zcells Try.prog 107 = some ([Value.nilFunc]) := by kernel_rfl
theorem zv107 : zval Try.prog 107 = some (Value.nilFunc) := by kernel_rfl
theorem sz108 : szOf Try.prog 108 = some 1 := by kernel_rfl
theorem by108 : byOf Try.prog 108 = some 8 := by kernel_rfl
theorem ag108 : aggOf Try.prog 108 = some false := by kernel_rfl
theorem zc108 : zcells Try.prog 108 = some ([Value.nilFunc]) := by kernel_rfl
theorem zv108 : zval Try.prog 108 = some (Value.nilFunc) := by kernel_rfl
theorem sz109 : szOf Try.prog 109 = some 1 := by kernel_rfl
theorem by109 : byOf Try.prog 109 = some 8 := by kernel_rfl
theorem ag109 : aggOf Try.prog 109 = some false := by kernel_rfl
theorem zc109 : zcells Try.prog 109 = some ([Value.nilFunc]) := by kernel_rfl
theorem zv109 : zval Try.prog 109 = some (Value.nilFunc) := by kernel_rfl
theorem sz110 : szOf Try.prog 110 = some 1 := by kernel_rfl
theorem by110 : byOf Try.prog 110 = some 8 := by kernel_rfl
theorem ag110 : aggOf Try.prog 110 = some false := by kernel_rfl
theorem zc110 : zcells Try.prog 110 = some ([Value.nilFunc]) := by kernel_rfl
theorem zv110 : zval Try.prog 110 = some (Value.nilFunc) := by kernel_rfl
theorem sz111 : szOf Try.prog 111 = some 1 := by kernel_rfl
theorem by111 : byOf Try.prog 111 = some 8 := by kernel_rfl
theorem ag111 : aggOf Try.prog 111 = some false := by kernel_rfl
theorem zc111 : zcells Try.prog 111 = some ([Value.nilFunc]) := by kernel_rfl
theorem zv111 : zval Try.prog 111 = some (Value.nilFunc) := by kernel_rfl
theorem sz112 : szOf Try.prog 112 = some 1 := by kernel_rfl
theorem by112 : byOf Try.prog 112 = some 8 := by kernel_rfl
theorem ag112 : aggOf Try.prog 112 = some false := by kernel_rfl
theorem zc112 : zcells Try.prog 112 = some ([Value.nilFunc]) := by kernel_rfl
theorem zv112 : zval Try.prog 112 = some (Value.nilFunc) := by kernel_rfl
theorem sz113 : szOf Try.prog 113 = some 1 := by kernel_rfl
theorem by113 : byOf Try.prog 113 = some 8 := by kernel_rfl
theorem ag113 : aggOf Try.prog 113 = some false := by kernel_rfl
theorem zc113 : zcells Try.prog 113 = some ([Value.nilFunc]) := by kernel_rfl
theorem zv113 : zval Try.prog 113 = some (Value.nilFunc) := by kernel_rfl
theorem sz114 : szOf Try.prog 114 = some 1 := by kernel_rfl
theorem by114 : byOf Try.prog 114 = some 8 := by kernel_rfl
theorem ag114 : aggOf Try.prog 114 = some false := by kernel_rfl
theorem zc114 : zcells Try.prog 114 = some ([Value.nilFunc]) := by kernel_rfl
theorem zv114 : zval Try.prog 114 = some (Value.nilFunc) := by kernel_rfl
theorem sz115 : szOf Try.prog 115 = some 1 := by kernel_rfl
theorem by115 : byOf Try.prog 115 = some 8 := by kernel_rfl
theorem ag115 : aggOf Try.prog 115 = some false := by kernel_rfl
theorem zc115 : zcells Try.prog 115 = some ([Value.nilFunc]) := by kernel_rfl
theorem zv115 : zval Try.prog 115 = some (Value.nilFunc) := by kernel_rfl
theorem sz116 : szOf Try.prog 116 = some 1 := by kernel_rfl
theorem by116 : byOf Try.prog 116 = some 8 := by kernel_rfl
theorem ag116 : aggOf Try.prog 116 = some false := by kernel_rfl
theorem zc116 : zcells Try.prog 116 = some ([Value.nilFunc]) := by kernel_rfl
theorem zv116 : zval Try.prog 116 = some (Value.nilFunc) := by kernel_rfl
theorem sz117 : szOf Try.prog 117 = some 1 := by kernel_rfl
theorem by117 : byOf Try.prog 117 = some 8 := by kernel_rfl
theorem ag117 : aggOf Try.prog 117 = some false := by kernel_rfl
theorem zc117 : zcells Try.prog 117 = some ([Value.nilFunc]) := by kernel_rfl
theorem zv117 : zval Try.prog 117 = some (Value.nilFunc) := by kernel_rfl
theorem sz118 : szOf Try.prog 118 = some 1 := by kernel_rfl
theorem by118 : byOf Try.prog 118 = some 8 := by kernel_rfl
theorem ag118 : aggOf Try.prog 118 = some false := by kernel_rfl
theorem zc118 : zcells Try.prog 118 = some ([Value.nilFunc]) := by kernel_rfl
theorem zv118 : zval Try.prog 118 = some (Value.nilFunc) := by kernel_rfl
theorem sz119 : szOf Try.prog 119 = some 1 := by kernel_rfl
theorem by119 : byOf Try.prog 119 = some 0 := by kernel_rfl
theorem ag119 : aggOf Try.prog 119 = some false := by kernel_rfl
theorem sz120 : szOf Try.prog 120 = some 1 := by kernel_rfl
theorem by120 : byOf Try.prog 120 = some 8 := by kernel_rfl
theorem ag120 : aggOf Try.prog 120 = some false := by kernel_rfl
theorem zc120 : zcells Try.prog 120 = some ([Value.nilFunc]) := by kernel_rfl
theorem zv120 : zval Try.prog 120 = some (Value.nilFunc) := by kernel_rfl
theorem sz121 : szOf Try.prog 121 = some 1 := by kernel_rfl
theorem by121 : byOf Try.prog 121 = some 16 := by kernel_rfl
theorem ag121 : aggOf Try.prog 121 = some false := by kernel_rfl
theorem zc121 : zcells Try.prog 121 = some ([Value.nilIface]) := by kernel_rfl
theorem zv121 : zval Try.prog 121 = some (Value.nilIface) := by kernel_rfl
theorem sz122 : szOf Try.prog 122 = some 1 := by kernel_rfl
theorem by122 : byOf Try.prog 122 = some 16 := by kernel_rfl
theorem ag122 : aggOf Try.prog 122 = some false := by kernel_rfl
theorem zc122 : zcells Try.prog 122 = some ([Value.nilIface]) := by kernel_rfl
theorem zv122 : zval Try.prog 122 = some (Value.nilIface) := by kernel_rfl
theorem sz123 : szOf Try.prog 123 = some 1 := by kernel_rfl
theorem by123 : byOf Try.prog 123 = some 8 := by kernel_rfl
theorem ag123 : aggOf Try.prog 123 = some false := by kernel_rfl
theorem zc123 : zcells Try.prog 123 = some ([Value.nilFunc]) := by kernel_rfl
theorem zv123 : zval Try.prog 123 = some (Value.nilFunc) := by kernel_rfl
theorem sz124 : szOf Try.prog 124 = some 1 := by kernel_rfl
theorem by124 : byOf Try.prog 124 = some 8 := by kernel_rfl
theorem ag124 : aggOf Try.prog 124 = some false := by kernel_rfl
theorem zc124 : zcells Try.prog 124 = some ([Value.nilFunc]) := by kernel_rfl
theorem zv124 : zval Try.prog 124 = some (Value.nilFunc) := by kernel_rfl
theorem sz125 : szOf Try.prog 125 = some 1 := by kernel_rfl
theorem by125 : byOf Try.prog 125 = some 8 := by kernel_rfl
theorem ag125 : aggOf Try.prog 125 = some false := by kernel_rfl
theorem zc125 : zcells Try.prog 125 = some ([Value.nilFunc]) := by kernel_rfl
theorem zv125 : zval Try.prog 125 = some (Value.nilFunc) := by kernel_rfl
theorem sz126 : szOf Try.prog 126 = some 1 := by kernel_rfl
theorem by126 : byOf Try.prog 126 = some 8 := by kernel_rfl
theorem ag126 : aggOf Try.prog 126 = some false := by kernel_rfl
theorem zc126 : zcells Try.prog 126 = some ([Value.nilFunc]) := by kernel_rfl
theorem zv126 : zval Try.prog 126 = some (Value.nilFunc) := by kernel_rfl
theorem sz127 : szOf Try.prog 127 = some 1 := by kernel_rfl
theorem by127 : byOf Try.prog 127 = some 8 := by kernel_rfl
theorem ag127 : aggOf Try.prog 127 = some false := by kernel_rfl
theorem zc127 : zcells Try.prog 127 = some ([Value.nilFunc]) := by kernel_rfl
theorem zv127 : zval Try.prog 127 = some (Value.nilFunc) := by kernel_rfl
theorem sz128 : szOf Try.prog 128 = some 1 := by kernel_rfl
theorem by128 : byOf Try.prog 128 = some 8 := by kernel_rfl
theorem ag128 : aggOf Try.prog 128 = some false := by kernel_rfl
theorem zc128 : zcells Try.prog 128 = some ([Value.nilFunc]) := by kernel_rfl
theorem zv128 : zval Try.prog 128 = some (Value.nilFunc) := by kernel_rfl
theorem sz129 : szOf Try.prog 129 = some 1 := by kernel_rfl
theorem by129 : byOf Try.prog 129 = some 8 := by kernel_rfl
theorem ag129 : aggOf Try.prog 129 = some false := by kernel_rfl
theorem zc129 : zcells Try.prog 129 = some ([Value.nilFunc]) := by kernel_rfl
theorem zv129 : zval Try.prog 129 = some (Value.nilFunc) := by kernel_rfl
theorem sz130 : szOf Try.prog 130 = some 1 := by kernel_rfl
theorem by130 : byOf Try.prog 130 = some 8 := by kernel_rfl
theorem ag130 : aggOf Try.prog 130 = some false := by kernel_rfl
theorem zc130 : zcells Try.prog 130 = some ([Value.nilFunc]) := by kernel_rfl
theorem zv130 : zval Try.prog 130 = some (Value.nilFunc) := by kernel_rfl
theorem sz131 : szOf Try.prog 131 = some 1 := by kernel_rfl
theorem by131 : byOf Try.prog 131 = some 8 := by kernel_rfl
theorem ag131 : aggOf Try.prog 131 = some false := by kernel_rfl
theorem zc131 : zcells Try.prog 131 = some ([Value.nilFunc]) := by kernel_rfl
theorem zv131 : zval Try.prog 131 = some (Value.nilFunc) := by kernel_rfl
theorem sz132 : szOf Try.prog 132 = some 1 := by kernel_rfl
theorem by132 : byOf Try.prog 132 = some 8 := by kernel_rfl
theorem ag132 : aggOf Try.prog 132 = some false := by kernel_rfl
theorem zc132 : zcells Try.prog 132 = some ([Value.nilFunc]) := by kernel_rfl
theorem zv132 : zval Try.prog 132 = some (Value.nilFunc) := by kernel_rfl
theorem sz133 : szOf Try.prog 133 = some 1 := by kernel_rfl
theorem by133 : byOf Try.prog 133 = some 8 := by kernel_rfl
theorem ag133 : aggOf Try.prog 133 = some false := by kernel_rfl
theorem zc133 : zcells Try.prog 133 = some ([Value.nilFunc]) := by kernel_rfl
theorem zv133 : zval Try.prog 133 = some (Value.nilFunc) := by kernel_rfl
theorem sz134 : szOf Try.prog 134 = some 1 := by kernel_rfl
theorem by134 : byOf Try.prog 134 = some 8 := by kernel_rfl
theorem ag134 : aggOf Try.prog 134 = some false := by kernel_rfl
theorem zc134 : zcells Try.prog 134 = some ([Value.nilFunc]) := by kernel_rfl
theorem zv134 : zval Try.prog 134 = some (Value.nilFunc) := by kernel_rfl
theorem sz135 : szOf Try.prog 135 = some 1 := by kernel_rfl
theorem by135 : byOf Try.prog 135 = some 8 := by kernel_rfl
theorem ag135 : aggOf Try.prog 135 = some false := by kernel_rfl
theorem zc135 : zcells Try.prog 135 = some ([Value.nilFunc]) := by kernel_rfl
theorem zv135 : zval Try.prog 135 = some (Value.nilFunc) := by kernel_rfl
theorem sz136 : szOf Try.prog 136 = some 1 := by kernel_rfl
theorem by136 : byOf Try.prog 136 = some 8 := by kernel_rfl
theorem ag136 : aggOf Try.prog 136 = some false := by kernel_rfl
theorem zc136 : zcells Try.prog 136 = some ([Value.nilFunc]) := by kernel_rfl
theorem zv136 : zval Try.prog 136 = some (Value.nilFunc) := by kernel_rfl
theorem sz137 : szOf Try.prog 137 = some 1 := by kernel_rfl
theorem by137 : byOf Try.prog 137 = some 8 := by kernel_rfl
theorem ag137 : aggOf Try.prog 137 = some false := by kernel_rfl
theorem zc137 : zcells Try.prog 137 = some ([Value.nilFunc]) := by kernel_rfl
theorem zv137 : zval Try.prog 137 = some (Value.nilFunc) := by kernel_rfl
theorem sz138 : szOf Try.prog 138 = some 1 := by kernel_rfl
theorem by138 : byOf Try.prog 138 = some 8 := by kernel_rfl
theorem ag138 : aggOf Try.prog 138 = some false := by kernel_rfl
theorem zc138 : zcells Try.prog 138 = some ([Value.nilFunc]) := by kernel_rfl
theorem zv138 : zval Try.prog 138 = some (Value.nilFunc) := by kernel_rfl
theorem sz141 : szOf Try.prog 141 = some 0 := by kernel_rfl
theorem by141 : byOf Try.prog 141 = some 0 := by kernel_rfl
theorem ag141 : aggOf Try.prog 141 = some true := by kernel_rfl
theorem zc141 : zcells Try.prog 141 = some ([]) := by kernel_rfl
theorem zv141 : zval Try.prog 141 = some (Value.agg ⟨[]⟩) := by kernel_rfl
theorem ar141 : arrOf Try.prog 141 = some (0, 16) := by kernel_rfl
theorem sz142 : szOf Try.prog 142 = some 0 := by kernel_rfl
theorem by142 : byOf Try.prog 142 = some 0 := by kernel_rfl
theorem ag142 : aggOf Try.prog 142 = some true := by kernel_rfl
theorem zc142 : zcells Try.prog 142 = some ([]) := by kernel_rfl
theorem zv142 : zval Try.prog 142 = some (Value.agg ⟨[]⟩) := by kernel_rfl
theorem fl142_0 : fldOf Try.prog 142 0 = some (0, 141) := by kernel_rfl
theorem pl142 : places Try.prog 142 = some [(0, 0)] := by kernel_rfl
theorem sz144 : szOf Try.prog 144 = some 1 := by kernel_rfl
theorem by144 : byOf Try.prog 144 = some 4 := by kernel_rfl
theorem ag144 : aggOf Try.prog 144 = some false := by kernel_rfl
theorem zc144 : zcells Try.prog 144 = some ([Value.int .u32 0]) := by kernel_rfl
theorem zv144 : zval Try.prog 144 = some (Value.int .u32 0) := by kernel_rfl
theorem sz147 : szOf Try.prog 147 = some 1 := by kernel_rfl
theorem by147 : byOf Try.prog 147 = some 8 := by kernel_rfl
theorem ag147 : aggOf Try.prog 147 = some false := by kernel_rfl
theorem zc147 : zcells Try.prog 147 = some ([Value.nilFunc]) := by kernel_rfl
theorem zv147 : zval Try.prog 147 = some (Value.nilFunc) := by kernel_rfl
theorem sz148 : szOf Try.prog 148 = some 1 := by kernel_rfl
theorem by148 : byOf Try.prog 148 = some 8 := by kernel_rfl
theorem ag148 : aggOf Try.prog 148 = some false := by kernel_rfl
theorem zc148 : zcells Try.prog 148 = some ([Value.pointer none]) := by kernel_rfl
theorem zv148 : zval Try.prog 148 = some (Value.pointer none) := by kernel_rfl
theorem sz153 : szOf Try.prog 153 = some 1 := by kernel_rfl
theorem by153 : byOf Try.prog 153 = some 8 := by kernel_rfl
theorem ag153 : aggOf Try.prog 153 = some false := by kernel_rfl
theorem zc153 : zcells Try.prog 153 = some ([Value.nilFunc]) := by kernel_rfl
theorem zv153 : zval Try.prog 153 = some (Value.nilFunc) := by kernel_rfl
theorem sz154 : szOf Try.prog 154 = some 1 := by kernel_rfl
theorem by154 : byOf Try.prog 154 = some 8 := by kernel_rfl
theorem ag154 : aggOf Try.prog 154 = some false := by kernel_rfl
theorem zc154 : zcells Try.prog 154 = some ([Value.nilFunc]) := by kernel_rfl
theorem zv154 : zval Try.prog 154 = some (Value.nilFunc) := by kernel_rfl
theorem sz155 : szOf Try.prog 155 = some 1 := by kernel_rfl
theorem by155 : byOf Try.prog 155 = some 8 := by kernel_rfl
theorem ag155 : aggOf Try.prog 155 = some false := by kernel_rfl
theorem zc155 : zcells Try.prog 155 = some ([Value.nilFunc]) := by kernel_rfl
theorem zv155 : zval Try.prog 155 = some (Value.nilFunc) := by kernel_rfl
theorem sz156 : szOf Try.prog 156 = some 1 := by kernel_rfl
theorem by156 : byOf Try.prog 156 = some 24 := by kernel_rfl
theorem ag156 : aggOf Try.prog 156 = some false := by kernel_rfl
theorem zc156 : zcells Try.prog 156 = some ([Value.slice none 0 0]) := by kernel_rfl
theorem zv156 : zval Try.prog 156 = some (Value.slice none 0 0) := by kernel_rfl
theorem sl156 : sliceOf Try.prog 156 = some 5 := by kernel_rfl
theorem sz157 : szOf Try.prog 157 = some 1 := by kernel_rfl
theorem by157 : byOf Try.prog 157 = some 8 := by kernel_rfl
theorem ag157 : aggOf Try.prog 157 = some false := by kernel_rfl
theorem zc157 : zcells Try.prog 157 = some ([Value.nilFunc]) := by kernel_rfl
theorem zv157 : zval Try.prog 157 = some (Value.nilFunc) := by kernel_rfl
theorem sz158 : szOf Try.prog 158 = some 1 := by kernel_rfl
theorem by158 : byOf Try.prog 158 = some 8 := by kernel_rfl
theorem ag158 : aggOf Try.prog 158 = some false := by kernel_rfl
theorem zc158 : zcells Try.prog 158 = some ([Value.nilFunc]) := by kernel_rfl
theorem zv158 : zval Try.prog 158 = some (Value.nilFunc) := by kernel_rfl
theorem sz159 : szOf Try.prog 159 = some 1 := by kernel_rfl
theorem by159 : byOf Try.prog 159 = some 8 := by kernel_rfl
theorem ag159 : aggOf Try.prog 159 = some false := by kernel_rfl
theorem zc159 : zcells Try.prog 159 = some ([Value.pointer none]) := by kernel_rfl
theorem zv159 : zval Try.prog 159 = some (Value.pointer none) := by kernel_rfl
theorem fine : Fine Try.prog := ⟨by kernel_rfl, by decide +kernel⟩
theorem mixed : Try.prog.follows .mixedOrders = true := by kernel_rfl
end Go.AB.Try
