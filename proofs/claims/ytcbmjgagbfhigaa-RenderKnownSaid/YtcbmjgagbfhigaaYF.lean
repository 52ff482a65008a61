import Derived.Test.YtcbmjgagbfhigaaProg
import Derived.Test.YtcbmjgagbfhigaaGC
import Derived.KernelRfl
namespace Go.AB.Try
open Go Go.AB Go.Proofs
set_option linter.unusedSimpArgs false
theorem sz0 : szOf Try.prog 0 = some 1 := by kernel_rfl
theorem by0 : byOf Try.prog 0 = some 0 := by kernel_rfl
theorem ag0 : aggOf Try.prog 0 = some false := by kernel_rfl
theorem sz1 : szOf Try.prog 1 = some 1 := by kernel_rfl
theorem by1 : byOf Try.prog 1 = some 8 := by kernel_rfl
theorem ag1 : aggOf Try.prog 1 = some false := by kernel_rfl
theorem zc1 : zcells Try.prog 1 = some ([Value.nilFunc]) := by kernel_rfl
theorem zv1 : zval Try.prog 1 = some (Value.nilFunc) := by kernel_rfl
theorem sz2 : szOf Try.prog 2 = some 1 := by kernel_rfl
theorem by2 : byOf Try.prog 2 = some 8 := by kernel_rfl
theorem ag2 : aggOf Try.prog 2 = some false := by kernel_rfl
theorem zc2 : zcells Try.prog 2 = some ([Value.int .i64 0]) := by kernel_rfl
theorem zv2 : zval Try.prog 2 = some (Value.int .i64 0) := by kernel_rfl
theorem sz3 : szOf Try.prog 3 = some 1 := by kernel_rfl
theorem by3 : byOf Try.prog 3 = some 8 := by kernel_rfl
theorem ag3 : aggOf Try.prog 3 = some false := by kernel_rfl
theorem zc3 : zcells Try.prog 3 = some ([Value.int .i64 0]) := by kernel_rfl
theorem zv3 : zval Try.prog 3 = some (Value.int .i64 0) := by kernel_rfl
theorem sz4 : szOf Try.prog 4 = some 1 := by kernel_rfl
theorem by4 : byOf Try.prog 4 = some 1 := by kernel_rfl
theorem ag4 : aggOf Try.prog 4 = some false := by kernel_rfl
theorem zc4 : zcells Try.prog 4 = some ([Value.bool false]) := by kernel_rfl
theorem zv4 : zval Try.prog 4 = some (Value.bool false) := by kernel_rfl
theorem sz5 : szOf Try.prog 5 = some 1 := by kernel_rfl
theorem by5 : byOf Try.prog 5 = some 1 := by kernel_rfl
theorem ag5 : aggOf Try.prog 5 = some false := by kernel_rfl
theorem zc5 : zcells Try.prog 5 = some ([Value.int .u8 0]) := by kernel_rfl
theorem zv5 : zval Try.prog 5 = some (Value.int .u8 0) := by kernel_rfl
theorem sz9 : szOf Try.prog 9 = some 1 := by kernel_rfl
theorem by9 : byOf Try.prog 9 = some 16 := by kernel_rfl
theorem ag9 : aggOf Try.prog 9 = some false := by kernel_rfl
theorem zc9 : zcells Try.prog 9 = some ([Value.string ⟨#[]⟩]) := by kernel_rfl
theorem zv9 : zval Try.prog 9 = some (Value.string ⟨#[]⟩) := by kernel_rfl
theorem sz12 : szOf Try.prog 12 = some 1 := by kernel_rfl
theorem by12 : byOf Try.prog 12 = some 8 := by kernel_rfl
theorem ag12 : aggOf Try.prog 12 = some false := by kernel_rfl
theorem zc12 : zcells Try.prog 12 = some ([Value.int .u64 0]) := by kernel_rfl
theorem zv12 : zval Try.prog 12 = some (Value.int .u64 0) := by kernel_rfl
theorem sz13 : szOf Try.prog 13 = some 2 := by kernel_rfl
theorem by13 : byOf Try.prog 13 = some 24 := by kernel_rfl
theorem ag13 : aggOf Try.prog 13 = some true := by kernel_rfl
theorem zc13 : zcells Try.prog 13 = some ([Value.string ⟨#[]⟩, Value.int .u64 0]) := by kernel_rfl
theorem zv13 : zval Try.prog 13 = some (Value.agg ⟨[Value.string ⟨#[]⟩, Value.int .u64 0]⟩) := by kernel_rfl
theorem fl13_0 : fldOf Try.prog 13 0 = some (0, 9) := by kernel_rfl
theorem fl13_1 : fldOf Try.prog 13 1 = some (1, 12) := by kernel_rfl
theorem pl13 : places Try.prog 13 = some [(0, 1), (1, 1)] := by kernel_rfl
theorem sz19 : szOf Try.prog 19 = some 1 := by kernel_rfl
theorem by19 : byOf Try.prog 19 = some 8 := by kernel_rfl
theorem ag19 : aggOf Try.prog 19 = some true := by kernel_rfl
theorem zc19 : zcells Try.prog 19 = some ([Value.pointer none]) := by kernel_rfl
theorem zv19 : zval Try.prog 19 = some (Value.agg ⟨[Value.pointer none]⟩) := by kernel_rfl
theorem fl19_0 : fldOf Try.prog 19 0 = some (0, 17) := by kernel_rfl
theorem pl19 : places Try.prog 19 = some [(0, 1)] := by kernel_rfl
theorem me19_Error : methOf Try.prog 19 "Error" = some (105, false) := by kernel_rfl
theorem me19_RuntimeError : methOf Try.prog 19 "RuntimeError" = some (106, false) := by kernel_rfl
theorem sz20 : szOf Try.prog 20 = some 1 := by kernel_rfl
theorem by20 : byOf Try.prog 20 = some 16 := by kernel_rfl
theorem ag20 : aggOf Try.prog 20 = some false := by kernel_rfl
theorem zc20 : zcells Try.prog 20 = some ([Value.nilIface]) := by kernel_rfl
theorem zv20 : zval Try.prog 20 = some (Value.nilIface) := by kernel_rfl
theorem sz21 : szOf Try.prog 21 = some 1 := by kernel_rfl
theorem by21 : byOf Try.prog 21 = some 4 := by kernel_rfl
theorem ag21 : aggOf Try.prog 21 = some false := by kernel_rfl
theorem zc21 : zcells Try.prog 21 = some ([Value.int .i32 0]) := by kernel_rfl
theorem zv21 : zval Try.prog 21 = some (Value.int .i32 0) := by kernel_rfl
theorem sz22 : szOf Try.prog 22 = some 1 := by kernel_rfl
theorem by22 : byOf Try.prog 22 = some 8 := by kernel_rfl
theorem ag22 : aggOf Try.prog 22 = some false := by kernel_rfl
theorem zc22 : zcells Try.prog 22 = some ([Value.pointer none]) := by kernel_rfl
theorem zv22 : zval Try.prog 22 = some (Value.pointer none) := by kernel_rfl
theorem me22_Add : methOf Try.prog 22 "Add" = some (20, true) := by kernel_rfl
theorem me22_Before : methOf Try.prog 22 "Before" = some (16, true) := by kernel_rfl
theorem me22_Copy : methOf Try.prog 22 "Copy" = some (24, true) := by kernel_rfl
theorem me22_Has : methOf Try.prog 22 "Has" = some (23, true) := by kernel_rfl
theorem me22_Lines : methOf Try.prog 22 "Lines" = some (22, true) := by kernel_rfl
theorem me22_Remove : methOf Try.prog 22 "Remove" = some (21, true) := by kernel_rfl
theorem me22_ahead : methOf Try.prog 22 "redwax/graph.ahead" = some (52, true) := by kernel_rfl
theorem me22_behind : methOf Try.prog 22 "redwax/graph.behind" = some (40, true) := by kernel_rfl
theorem me22_count : methOf Try.prog 22 "redwax/graph.count" = some (51, true) := by kernel_rfl
theorem me22_is : methOf Try.prog 22 "redwax/graph.is" = some (41, true) := by kernel_rfl
theorem me22_line : methOf Try.prog 22 "redwax/graph.line" = some (46, true) := by kernel_rfl
theorem me22_link : methOf Try.prog 22 "redwax/graph.link" = some (72, true) := by kernel_rfl
theorem me22_links : methOf Try.prog 22 "redwax/graph.links" = some (50, true) := by kernel_rfl
theorem me22_there : methOf Try.prog 22 "redwax/graph.there" = some (42, true) := by kernel_rfl
theorem sz23 : szOf Try.prog 23 = some 1 := by kernel_rfl
theorem by23 : byOf Try.prog 23 = some 8 := by kernel_rfl
theorem ag23 : aggOf Try.prog 23 = some false := by kernel_rfl
theorem zc23 : zcells Try.prog 23 = some ([Value.nilFunc]) := by kernel_rfl
theorem zv23 : zval Try.prog 23 = some (Value.nilFunc) := by kernel_rfl
theorem sz24 : szOf Try.prog 24 = some 32 := by kernel_rfl
theorem by24 : byOf Try.prog 24 = some 32 := by kernel_rfl
theorem ag24 : aggOf Try.prog 24 = some true := by kernel_rfl
theorem zc24 : zcells Try.prog 24 = some (List.replicate 32 (Value.int .u8 0)) := by kernel_rfl
theorem zv24 : zval Try.prog 24 = some (Value.agg ⟨List.replicate 32 (Value.int .u8 0)⟩) := by kernel_rfl
theorem ar24 : arrOf Try.prog 24 = some (32, 5) := by kernel_rfl
theorem sz25 : szOf Try.prog 25 = some 32 := by kernel_rfl
theorem by25 : byOf Try.prog 25 = some 32 := by kernel_rfl
theorem ag25 : aggOf Try.prog 25 = some true := by kernel_rfl
theorem zc25 : zcells Try.prog 25 = some (List.replicate 32 (Value.int .u8 0)) := by kernel_rfl
theorem zv25 : zval Try.prog 25 = some (Value.agg ⟨List.replicate 32 (Value.int .u8 0)⟩) := by kernel_rfl
theorem ar25 : arrOf Try.prog 25 = some (32, 5) := by kernel_rfl
theorem sz26 : szOf Try.prog 26 = some 33 := by kernel_rfl
theorem by26 : byOf Try.prog 26 = some 40 := by kernel_rfl
theorem ag26 : aggOf Try.prog 26 = some true := by kernel_rfl
theorem zc26 : zcells Try.prog 26 = some (List.replicate 32 (Value.int .u8 0) ++ [Value.int .i64 0]) := by kernel_rfl
theorem zv26 : zval Try.prog 26 = some (Value.agg ⟨List.replicate 32 (Value.int .u8 0) ++ [Value.int .i64 0]⟩) := by kernel_rfl
theorem fl26_0 : fldOf Try.prog 26 0 = some (0, 25) := by kernel_rfl
theorem fl26_1 : fldOf Try.prog 26 1 = some (32, 3) := by kernel_rfl
theorem pl26 : places Try.prog 26 = some [(0, 32), (32, 1)] := by kernel_rfl
theorem sz27 : szOf Try.prog 27 = some 33 := by kernel_rfl
theorem by27 : byOf Try.prog 27 = some 40 := by kernel_rfl
theorem ag27 : aggOf Try.prog 27 = some true := by kernel_rfl
theorem zc27 : zcells Try.prog 27 = some (List.replicate 32 (Value.int .u8 0) ++ [Value.int .i64 0]) := by kernel_rfl
theorem zv27 : zval Try.prog 27 = some (Value.agg ⟨List.replicate 32 (Value.int .u8 0) ++ [Value.int .i64 0]⟩) := by kernel_rfl
theorem fl27_0 : fldOf Try.prog 27 0 = some (0, 25) := by kernel_rfl
theorem fl27_1 : fldOf Try.prog 27 1 = some (32, 3) := by kernel_rfl
theorem pl27 : places Try.prog 27 = some [(0, 32), (32, 1)] := by kernel_rfl
theorem sz28 : szOf Try.prog 28 = some 1 := by kernel_rfl
theorem by28 : byOf Try.prog 28 = some 24 := by kernel_rfl
theorem ag28 : aggOf Try.prog 28 = some false := by kernel_rfl
theorem zc28 : zcells Try.prog 28 = some ([Value.slice none 0 0]) := by kernel_rfl
theorem zv28 : zval Try.prog 28 = some (Value.slice none 0 0) := by kernel_rfl
theorem sl28 : sliceOf Try.prog 28 = some 9 := by kernel_rfl
theorem sz29 : szOf Try.prog 29 = some 1 := by kernel_rfl
theorem by29 : byOf Try.prog 29 = some 24 := by kernel_rfl
theorem ag29 : aggOf Try.prog 29 = some false := by kernel_rfl
theorem zc29 : zcells Try.prog 29 = some ([Value.slice none 0 0]) := by kernel_rfl
theorem zv29 : zval Try.prog 29 = some (Value.slice none 0 0) := by kernel_rfl
theorem sl29 : sliceOf Try.prog 29 = some 27 := by kernel_rfl
theorem sz30 : szOf Try.prog 30 = some 102 := by kernel_rfl
theorem by30 : byOf Try.prog 30 = some 176 := by kernel_rfl
theorem ag30 : aggOf Try.prog 30 = some true := by kernel_rfl
theorem zc30 : zcells Try.prog 30 = some (List.replicate 32 (Value.int .u8 0) ++ [Value.int .i64 0, Value.int .i64 0] ++ List.replicate 32 (Value.int .u8 0) ++ [Value.int .i64 0] ++ List.replicate 32 (Value.int .u8 0) ++ [Value.int .i64 0, Value.slice none 0 0, Value.slice none 0 0]) := by kernel_rfl
theorem zv30 : zval Try.prog 30 = some (Value.agg ⟨List.replicate 32 (Value.int .u8 0) ++ [Value.int .i64 0, Value.int .i64 0] ++ List.replicate 32 (Value.int .u8 0) ++ [Value.int .i64 0] ++ List.replicate 32 (Value.int .u8 0) ++ [Value.int .i64 0, Value.slice none 0 0, Value.slice none 0 0]⟩) := by kernel_rfl
theorem fl30_0 : fldOf Try.prog 30 0 = some (0, 25) := by kernel_rfl
theorem fl30_1 : fldOf Try.prog 30 1 = some (32, 3) := by kernel_rfl
theorem fl30_2 : fldOf Try.prog 30 2 = some (33, 3) := by kernel_rfl
theorem fl30_3 : fldOf Try.prog 30 3 = some (34, 27) := by kernel_rfl
theorem fl30_4 : fldOf Try.prog 30 4 = some (67, 27) := by kernel_rfl
theorem fl30_5 : fldOf Try.prog 30 5 = some (100, 28) := by kernel_rfl
theorem fl30_6 : fldOf Try.prog 30 6 = some (101, 29) := by kernel_rfl
theorem pl30 : places Try.prog 30 = some [(0, 32), (32, 1), (33, 1), (34, 33), (67, 33), (100, 1), (101, 1)] := by kernel_rfl
theorem sz31 : szOf Try.prog 31 = some 102 := by kernel_rfl
theorem by31 : byOf Try.prog 31 = some 176 := by kernel_rfl
theorem ag31 : aggOf Try.prog 31 = some true := by kernel_rfl
theorem zc31 : zcells Try.prog 31 = some (List.replicate 32 (Value.int .u8 0) ++ [Value.int .i64 0, Value.int .i64 0] ++ List.replicate 32 (Value.int .u8 0) ++ [Value.int .i64 0] ++ List.replicate 32 (Value.int .u8 0) ++ [Value.int .i64 0, Value.slice none 0 0, Value.slice none 0 0]) := by kernel_rfl
theorem zv31 : zval Try.prog 31 = some (Value.agg ⟨List.replicate 32 (Value.int .u8 0) ++ [Value.int .i64 0, Value.int .i64 0] ++ List.replicate 32 (Value.int .u8 0) ++ [Value.int .i64 0] ++ List.replicate 32 (Value.int .u8 0) ++ [Value.int .i64 0, Value.slice none 0 0, Value.slice none 0 0]⟩) := by kernel_rfl
theorem fl31_0 : fldOf Try.prog 31 0 = some (0, 25) := by kernel_rfl
theorem fl31_1 : fldOf Try.prog 31 1 = some (32, 3) := by kernel_rfl
theorem fl31_2 : fldOf Try.prog 31 2 = some (33, 3) := by kernel_rfl
theorem fl31_3 : fldOf Try.prog 31 3 = some (34, 27) := by kernel_rfl
theorem fl31_4 : fldOf Try.prog 31 4 = some (67, 27) := by kernel_rfl
theorem fl31_5 : fldOf Try.prog 31 5 = some (100, 28) := by kernel_rfl
theorem fl31_6 : fldOf Try.prog 31 6 = some (101, 29) := by kernel_rfl
theorem pl31 : places Try.prog 31 = some [(0, 32), (32, 1), (33, 1), (34, 33), (67, 33), (100, 1), (101, 1)] := by kernel_rfl
theorem me31_formed : methOf Try.prog 31 "redwax/graph.formed" = some (43, false) := by kernel_rfl
theorem me31_vertex : methOf Try.prog 31 "redwax/graph.vertex" = some (49, false) := by kernel_rfl
theorem sz32 : szOf Try.prog 32 = some 1 := by kernel_rfl
theorem by32 : byOf Try.prog 32 = some 8 := by kernel_rfl
theorem ag32 : aggOf Try.prog 32 = some false := by kernel_rfl
theorem zc32 : zcells Try.prog 32 = some ([Value.nilFunc]) := by kernel_rfl
theorem zv32 : zval Try.prog 32 = some (Value.nilFunc) := by kernel_rfl
theorem sz33 : szOf Try.prog 33 = some 1 := by kernel_rfl
theorem by33 : byOf Try.prog 33 = some 8 := by kernel_rfl
theorem ag33 : aggOf Try.prog 33 = some false := by kernel_rfl
theorem zc33 : zcells Try.prog 33 = some ([Value.nilFunc]) := by kernel_rfl
theorem zv33 : zval Try.prog 33 = some (Value.nilFunc) := by kernel_rfl
theorem sz34 : szOf Try.prog 34 = some 1 := by kernel_rfl
theorem by34 : byOf Try.prog 34 = some 8 := by kernel_rfl
theorem ag34 : aggOf Try.prog 34 = some false := by kernel_rfl
theorem zc34 : zcells Try.prog 34 = some ([Value.map none]) := by kernel_rfl
theorem zv34 : zval Try.prog 34 = some (Value.map none) := by kernel_rfl
theorem mp34 : mapOf Try.prog 34 = some (87, 31) := by kernel_rfl
theorem sz35 : szOf Try.prog 35 = some 1 := by kernel_rfl
theorem by35 : byOf Try.prog 35 = some 8 := by kernel_rfl
theorem ag35 : aggOf Try.prog 35 = some false := by kernel_rfl
theorem zc35 : zcells Try.prog 35 = some ([Value.map none]) := by kernel_rfl
theorem zv35 : zval Try.prog 35 = some (Value.map none) := by kernel_rfl
theorem mp35 : mapOf Try.prog 35 = some (27, 89) := by kernel_rfl
theorem sz36 : szOf Try.prog 36 = some 4 := by kernel_rfl
theorem by36 : byOf Try.prog 36 = some 48 := by kernel_rfl
theorem ag36 : aggOf Try.prog 36 = some true := by kernel_rfl
theorem zc36 : zcells Try.prog 36 = some ([Value.bool false, Value.map none, Value.map none, Value.slice none 0 0]) := by kernel_rfl
theorem zv36 : zval Try.prog 36 = some (Value.agg ⟨[Value.bool false, Value.map none, Value.map none, Value.slice none 0 0]⟩) := by kernel_rfl
theorem fl36_0 : fldOf Try.prog 36 0 = some (0, 4) := by kernel_rfl
theorem fl36_1 : fldOf Try.prog 36 1 = some (1, 34) := by kernel_rfl
theorem fl36_2 : fldOf Try.prog 36 2 = some (2, 35) := by kernel_rfl
theorem fl36_3 : fldOf Try.prog 36 3 = some (3, 29) := by kernel_rfl
theorem pl36 : places Try.prog 36 = some [(0, 1), (1, 1), (2, 1), (3, 1)] := by kernel_rfl
theorem sz37 : szOf Try.prog 37 = some 4 := by kernel_rfl
theorem by37 : byOf Try.prog 37 = some 48 := by kernel_rfl
theorem ag37 : aggOf Try.prog 37 = some true := by kernel_rfl
theorem zc37 : zcells Try.prog 37 = some ([Value.bool false, Value.map none, Value.map none, Value.slice none 0 0]) := by kernel_rfl
theorem zv37 : zval Try.prog 37 = some (Value.agg ⟨[Value.bool false, Value.map none, Value.map none, Value.slice none 0 0]⟩) := by kernel_rfl
theorem fl37_0 : fldOf Try.prog 37 0 = some (0, 4) := by kernel_rfl
theorem fl37_1 : fldOf Try.prog 37 1 = some (1, 34) := by kernel_rfl
theorem fl37_2 : fldOf Try.prog 37 2 = some (2, 35) := by kernel_rfl
theorem fl37_3 : fldOf Try.prog 37 3 = some (3, 29) := by kernel_rfl
theorem pl37 : places Try.prog 37 = some [(0, 1), (1, 1), (2, 1), (3, 1)] := by kernel_rfl
theorem sz38 : szOf Try.prog 38 = some 1 := by kernel_rfl
theorem by38 : byOf Try.prog 38 = some 8 := by kernel_rfl
theorem ag38 : aggOf Try.prog 38 = some false := by kernel_rfl
theorem zc38 : zcells Try.prog 38 = some ([Value.nilFunc]) := by kernel_rfl
theorem zv38 : zval Try.prog 38 = some (Value.nilFunc) := by kernel_rfl
theorem sz39 : szOf Try.prog 39 = some 1 := by kernel_rfl
theorem by39 : byOf Try.prog 39 = some 8 := by kernel_rfl
theorem ag39 : aggOf Try.prog 39 = some false := by kernel_rfl
theorem zc39 : zcells Try.prog 39 = some ([Value.nilFunc]) := by kernel_rfl
theorem zv39 : zval Try.prog 39 = some (Value.nilFunc) := by kernel_rfl
theorem sz40 : szOf Try.prog 40 = some 1 := by kernel_rfl
theorem by40 : byOf Try.prog 40 = some 8 := by kernel_rfl
theorem ag40 : aggOf Try.prog 40 = some false := by kernel_rfl
theorem zc40 : zcells Try.prog 40 = some ([Value.nilFunc]) := by kernel_rfl
theorem zv40 : zval Try.prog 40 = some (Value.nilFunc) := by kernel_rfl
theorem sz41 : szOf Try.prog 41 = some 1 := by kernel_rfl
theorem by41 : byOf Try.prog 41 = some 8 := by kernel_rfl
theorem ag41 : aggOf Try.prog 41 = some false := by kernel_rfl
theorem zc41 : zcells Try.prog 41 = some ([Value.nilFunc]) := by kernel_rfl
theorem zv41 : zval Try.prog 41 = some (Value.nilFunc) := by kernel_rfl
theorem sz42 : szOf Try.prog 42 = some 1 := by kernel_rfl
theorem by42 : byOf Try.prog 42 = some 8 := by kernel_rfl
theorem ag42 : aggOf Try.prog 42 = some false := by kernel_rfl
theorem zc42 : zcells Try.prog 42 = some ([Value.int .i64 0]) := by kernel_rfl
theorem zv42 : zval Try.prog 42 = some (Value.int .i64 0) := by kernel_rfl
theorem sz43 : szOf Try.prog 43 = some 1 := by kernel_rfl
theorem by43 : byOf Try.prog 43 = some 8 := by kernel_rfl
theorem ag43 : aggOf Try.prog 43 = some false := by kernel_rfl
theorem zc43 : zcells Try.prog 43 = some ([Value.nilFunc]) := by kernel_rfl
theorem zv43 : zval Try.prog 43 = some (Value.nilFunc) := by kernel_rfl
theorem sz44 : szOf Try.prog 44 = some 1 := by kernel_rfl
theorem by44 : byOf Try.prog 44 = some 8 := by kernel_rfl
theorem ag44 : aggOf Try.prog 44 = some false := by kernel_rfl
theorem zc44 : zcells Try.prog 44 = some ([Value.nilFunc]) := by kernel_rfl
theorem zv44 : zval Try.prog 44 = some (Value.nilFunc) := by kernel_rfl
theorem sz45 : szOf Try.prog 45 = some 1 := by kernel_rfl
theorem by45 : byOf Try.prog 45 = some 8 := by kernel_rfl
theorem ag45 : aggOf Try.prog 45 = some false := by kernel_rfl
theorem zc45 : zcells Try.prog 45 = some ([Value.nilFunc]) := by kernel_rfl
theorem zv45 : zval Try.prog 45 = some (Value.nilFunc) := by kernel_rfl
theorem sz46 : szOf Try.prog 46 = some 1 := by kernel_rfl
theorem by46 : byOf Try.prog 46 = some 24 := by kernel_rfl
theorem ag46 : aggOf Try.prog 46 = some false := by kernel_rfl
theorem zc46 : zcells Try.prog 46 = some ([Value.slice none 0 0]) := by kernel_rfl
theorem zv46 : zval Try.prog 46 = some (Value.slice none 0 0) := by kernel_rfl
theorem sl46 : sliceOf Try.prog 46 = some 69 := by kernel_rfl
theorem sz47 : szOf Try.prog 47 = some 1 := by kernel_rfl
theorem by47 : byOf Try.prog 47 = some 8 := by kernel_rfl
theorem ag47 : aggOf Try.prog 47 = some false := by kernel_rfl
theorem zc47 : zcells Try.prog 47 = some ([Value.nilFunc]) := by kernel_rfl
theorem zv47 : zval Try.prog 47 = some (Value.nilFunc) := by kernel_rfl
theorem sz48 : szOf Try.prog 48 = some 1 := by kernel_rfl
theorem by48 : byOf Try.prog 48 = some 8 := by kernel_rfl
theorem ag48 : aggOf Try.prog 48 = some false := by kernel_rfl
theorem zc48 : zcells Try.prog 48 = some ([Value.nilFunc]) := by kernel_rfl
theorem zv48 : zval Try.prog 48 = some (Value.nilFunc) := by kernel_rfl
theorem sz49 : szOf Try.prog 49 = some 1 := by kernel_rfl
theorem by49 : byOf Try.prog 49 = some 24 := by kernel_rfl
theorem ag49 : aggOf Try.prog 49 = some false := by kernel_rfl
theorem zc49 : zcells Try.prog 49 = some ([Value.slice none 0 0]) := by kernel_rfl
theorem zv49 : zval Try.prog 49 = some (Value.slice none 0 0) := by kernel_rfl
theorem sl49 : sliceOf Try.prog 49 = some 31 := by kernel_rfl
theorem sz50 : szOf Try.prog 50 = some 1 := by kernel_rfl
theorem by50 : byOf Try.prog 50 = some 8 := by kernel_rfl
theorem ag50 : aggOf Try.prog 50 = some false := by kernel_rfl
theorem zc50 : zcells Try.prog 50 = some ([Value.nilFunc]) := by kernel_rfl
theorem zv50 : zval Try.prog 50 = some (Value.nilFunc) := by kernel_rfl
theorem sz51 : szOf Try.prog 51 = some 1 := by kernel_rfl
theorem by51 : byOf Try.prog 51 = some 24 := by kernel_rfl
theorem ag51 : aggOf Try.prog 51 = some false := by kernel_rfl
theorem zc51 : zcells Try.prog 51 = some ([Value.slice none 0 0]) := by kernel_rfl
theorem zv51 : zval Try.prog 51 = some (Value.slice none 0 0) := by kernel_rfl
theorem sl51 : sliceOf Try.prog 51 = some 106 := by kernel_rfl
theorem sz52 : szOf Try.prog 52 = some 1 := by kernel_rfl
theorem by52 : byOf Try.prog 52 = some 0 := by kernel_rfl
theorem ag52 : aggOf Try.prog 52 = some false := by kernel_rfl
theorem sz53 : szOf Try.prog 53 = some 1 := by kernel_rfl
theorem by53 : byOf Try.prog 53 = some 8 := by kernel_rfl
theorem ag53 : aggOf Try.prog 53 = some false := by kernel_rfl
theorem zc53 : zcells Try.prog 53 = some ([Value.nilFunc]) := by kernel_rfl
theorem zv53 : zval Try.prog 53 = some (Value.nilFunc) := by kernel_rfl
theorem sz54 : szOf Try.prog 54 = some 1 := by kernel_rfl
theorem by54 : byOf Try.prog 54 = some 24 := by kernel_rfl
theorem ag54 : aggOf Try.prog 54 = some false := by kernel_rfl
theorem zc54 : zcells Try.prog 54 = some ([Value.slice none 0 0]) := by kernel_rfl
theorem zv54 : zval Try.prog 54 = some (Value.slice none 0 0) := by kernel_rfl
theorem sl54 : sliceOf Try.prog 54 = some 63 := by kernel_rfl
theorem sz55 : szOf Try.prog 55 = some 1 := by kernel_rfl
theorem by55 : byOf Try.prog 55 = some 8 := by kernel_rfl
theorem ag55 : aggOf Try.prog 55 = some false := by kernel_rfl
theorem zc55 : zcells Try.prog 55 = some ([Value.nilFunc]) := by kernel_rfl
theorem zv55 : zval Try.prog 55 = some (Value.nilFunc) := by kernel_rfl
theorem sz56 : szOf Try.prog 56 = some 1 := by kernel_rfl
theorem by56 : byOf Try.prog 56 = some 24 := by kernel_rfl
theorem ag56 : aggOf Try.prog 56 = some false := by kernel_rfl
theorem zc56 : zcells Try.prog 56 = some ([Value.slice none 0 0]) := by kernel_rfl
theorem zv56 : zval Try.prog 56 = some (Value.slice none 0 0) := by kernel_rfl
theorem sl56 : sliceOf Try.prog 56 = some 66 := by kernel_rfl
theorem sz57 : szOf Try.prog 57 = some 1 := by kernel_rfl
theorem by57 : byOf Try.prog 57 = some 8 := by kernel_rfl
theorem ag57 : aggOf Try.prog 57 = some false := by kernel_rfl
theorem zc57 : zcells Try.prog 57 = some ([Value.nilFunc]) := by kernel_rfl
theorem zv57 : zval Try.prog 57 = some (Value.nilFunc) := by kernel_rfl
theorem sz58 : szOf Try.prog 58 = some 1 := by kernel_rfl
theorem by58 : byOf Try.prog 58 = some 8 := by kernel_rfl
theorem ag58 : aggOf Try.prog 58 = some false := by kernel_rfl
theorem zc58 : zcells Try.prog 58 = some ([Value.nilFunc]) := by kernel_rfl
theorem zv58 : zval Try.prog 58 = some (Value.nilFunc) := by kernel_rfl
theorem sz59 : szOf Try.prog 59 = some 1 := by kernel_rfl
theorem by59 : byOf Try.prog 59 = some 8 := by kernel_rfl
theorem ag59 : aggOf Try.prog 59 = some false := by kernel_rfl
theorem zc59 : zcells Try.prog 59 = some ([Value.nilFunc]) := by kernel_rfl
theorem zv59 : zval Try.prog 59 = some (Value.nilFunc) := by kernel_rfl
theorem sz60 : szOf Try.prog 60 = some 1 := by kernel_rfl
theorem by60 : byOf Try.prog 60 = some 8 := by kernel_rfl
theorem ag60 : aggOf Try.prog 60 = some false := by kernel_rfl
theorem zc60 : zcells Try.prog 60 = some ([Value.nilFunc]) := by kernel_rfl
theorem zv60 : zval Try.prog 60 = some (Value.nilFunc) := by kernel_rfl
theorem sz61 : szOf Try.prog 61 = some 1 := by kernel_rfl
theorem by61 : byOf Try.prog 61 = some 24 := by kernel_rfl
theorem ag61 : aggOf Try.prog 61 = some false := by kernel_rfl
theorem zc61 : zcells Try.prog 61 = some ([Value.slice none 0 0]) := by kernel_rfl
theorem zv61 : zval Try.prog 61 = some (Value.slice none 0 0) := by kernel_rfl
theorem sl61 : sliceOf Try.prog 61 = some 3 := by kernel_rfl
theorem sz62 : szOf Try.prog 62 = some 3 := by kernel_rfl
theorem by62 : byOf Try.prog 62 = some 56 := by kernel_rfl
theorem ag62 : aggOf Try.prog 62 = some true := by kernel_rfl
theorem zc62 : zcells Try.prog 62 = some ([Value.slice none 0 0, Value.bool false, Value.slice none 0 0]) := by kernel_rfl
theorem zv62 : zval Try.prog 62 = some (Value.agg ⟨[Value.slice none 0 0, Value.bool false, Value.slice none 0 0]⟩) := by kernel_rfl
theorem fl62_0 : fldOf Try.prog 62 0 = some (0, 46) := by kernel_rfl
theorem fl62_1 : fldOf Try.prog 62 1 = some (1, 4) := by kernel_rfl
theorem fl62_2 : fldOf Try.prog 62 2 = some (2, 61) := by kernel_rfl
theorem pl62 : places Try.prog 62 = some [(0, 1), (1, 1), (2, 1)] := by kernel_rfl
theorem sz63 : szOf Try.prog 63 = some 3 := by kernel_rfl
theorem by63 : byOf Try.prog 63 = some 56 := by kernel_rfl
theorem ag63 : aggOf Try.prog 63 = some true := by kernel_rfl
theorem zc63 : zcells Try.prog 63 = some ([Value.slice none 0 0, Value.bool false, Value.slice none 0 0]) := by kernel_rfl
theorem zv63 : zval Try.prog 63 = some (Value.agg ⟨[Value.slice none 0 0, Value.bool false, Value.slice none 0 0]⟩) := by kernel_rfl
theorem fl63_0 : fldOf Try.prog 63 0 = some (0, 46) := by kernel_rfl
theorem fl63_1 : fldOf Try.prog 63 1 = some (1, 4) := by kernel_rfl
theorem fl63_2 : fldOf Try.prog 63 2 = some (2, 61) := by kernel_rfl
theorem pl63 : places Try.prog 63 = some [(0, 1), (1, 1), (2, 1)] := by kernel_rfl
theorem sz64 : szOf Try.prog 64 = some 1 := by kernel_rfl
theorem by64 : byOf Try.prog 64 = some 24 := by kernel_rfl
theorem ag64 : aggOf Try.prog 64 = some false := by kernel_rfl
theorem zc64 : zcells Try.prog 64 = some ([Value.slice none 0 0]) := by kernel_rfl
theorem zv64 : zval Try.prog 64 = some (Value.slice none 0 0) := by kernel_rfl
theorem sl64 : sliceOf Try.prog 64 = some 70 := by kernel_rfl
theorem sz65 : szOf Try.prog 65 = some 3 := by kernel_rfl
theorem by65 : byOf Try.prog 65 = some 56 := by kernel_rfl
theorem ag65 : aggOf Try.prog 65 = some true := by kernel_rfl
theorem zc65 : zcells Try.prog 65 = some ([Value.slice none 0 0, Value.bool false, Value.slice none 0 0]) := by kernel_rfl
theorem zv65 : zval Try.prog 65 = some (Value.agg ⟨[Value.slice none 0 0, Value.bool false, Value.slice none 0 0]⟩) := by kernel_rfl
theorem fl65_0 : fldOf Try.prog 65 0 = some (0, 64) := by kernel_rfl
theorem fl65_1 : fldOf Try.prog 65 1 = some (1, 4) := by kernel_rfl
theorem fl65_2 : fldOf Try.prog 65 2 = some (2, 61) := by kernel_rfl
theorem pl65 : places Try.prog 65 = some [(0, 1), (1, 1), (2, 1)] := by kernel_rfl
theorem sz66 : szOf Try.prog 66 = some 3 := by kernel_rfl
theorem by66 : byOf Try.prog 66 = some 56 := by kernel_rfl
theorem ag66 : aggOf Try.prog 66 = some true := by kernel_rfl
theorem zc66 : zcells Try.prog 66 = some ([Value.slice none 0 0, Value.bool false, Value.slice none 0 0]) := by kernel_rfl
theorem zv66 : zval Try.prog 66 = some (Value.agg ⟨[Value.slice none 0 0, Value.bool false, Value.slice none 0 0]⟩) := by kernel_rfl
theorem fl66_0 : fldOf Try.prog 66 0 = some (0, 64) := by kernel_rfl
theorem fl66_1 : fldOf Try.prog 66 1 = some (1, 4) := by kernel_rfl
theorem fl66_2 : fldOf Try.prog 66 2 = some (2, 61) := by kernel_rfl
theorem pl66 : places Try.prog 66 = some [(0, 1), (1, 1), (2, 1)] := by kernel_rfl
theorem sz67 : szOf Try.prog 67 = some 1 := by kernel_rfl
theorem by67 : byOf Try.prog 67 = some 8 := by kernel_rfl
theorem ag67 : aggOf Try.prog 67 = some false := by kernel_rfl
theorem zc67 : zcells Try.prog 67 = some ([Value.nilFunc]) := by kernel_rfl
theorem zv67 : zval Try.prog 67 = some (Value.nilFunc) := by kernel_rfl
theorem sz68 : szOf Try.prog 68 = some 35 := by kernel_rfl
theorem by68 : byOf Try.prog 68 = some 64 := by kernel_rfl
theorem ag68 : aggOf Try.prog 68 = some true := by kernel_rfl
theorem zc68 : zcells Try.prog 68 = some (List.replicate 32 (Value.int .u8 0) ++ [Value.int .i64 0, Value.string ⟨#[]⟩, Value.bool false]) := by kernel_rfl
theorem zv68 : zval Try.prog 68 = some (Value.agg ⟨List.replicate 32 (Value.int .u8 0) ++ [Value.int .i64 0, Value.string ⟨#[]⟩, Value.bool false]⟩) := by kernel_rfl
theorem fl68_0 : fldOf Try.prog 68 0 = some (0, 27) := by kernel_rfl
theorem fl68_1 : fldOf Try.prog 68 1 = some (33, 9) := by kernel_rfl
theorem fl68_2 : fldOf Try.prog 68 2 = some (34, 4) := by kernel_rfl
theorem pl68 : places Try.prog 68 = some [(0, 33), (33, 1), (34, 1)] := by kernel_rfl
theorem sz69 : szOf Try.prog 69 = some 35 := by kernel_rfl
theorem by69 : byOf Try.prog 69 = some 64 := by kernel_rfl
theorem ag69 : aggOf Try.prog 69 = some true := by kernel_rfl
theorem zc69 : zcells Try.prog 69 = some (List.replicate 32 (Value.int .u8 0) ++ [Value.int .i64 0, Value.string ⟨#[]⟩, Value.bool false]) := by kernel_rfl
theorem zv69 : zval Try.prog 69 = some (Value.agg ⟨List.replicate 32 (Value.int .u8 0) ++ [Value.int .i64 0, Value.string ⟨#[]⟩, Value.bool false]⟩) := by kernel_rfl
theorem fl69_0 : fldOf Try.prog 69 0 = some (0, 27) := by kernel_rfl
theorem fl69_1 : fldOf Try.prog 69 1 = some (33, 9) := by kernel_rfl
theorem fl69_2 : fldOf Try.prog 69 2 = some (34, 4) := by kernel_rfl
theorem pl69 : places Try.prog 69 = some [(0, 33), (33, 1), (34, 1)] := by kernel_rfl
theorem sz70 : szOf Try.prog 70 = some 35 := by kernel_rfl
theorem by70 : byOf Try.prog 70 = some 64 := by kernel_rfl
theorem ag70 : aggOf Try.prog 70 = some true := by kernel_rfl
theorem zc70 : zcells Try.prog 70 = some (List.replicate 32 (Value.int .u8 0) ++ [Value.int .i64 0, Value.string ⟨#[]⟩, Value.bool false]) := by kernel_rfl
theorem zv70 : zval Try.prog 70 = some (Value.agg ⟨List.replicate 32 (Value.int .u8 0) ++ [Value.int .i64 0, Value.string ⟨#[]⟩, Value.bool false]⟩) := by kernel_rfl
theorem fl70_0 : fldOf Try.prog 70 0 = some (0, 27) := by kernel_rfl
theorem fl70_1 : fldOf Try.prog 70 1 = some (33, 9) := by kernel_rfl
theorem fl70_2 : fldOf Try.prog 70 2 = some (34, 4) := by kernel_rfl
theorem pl70 : places Try.prog 70 = some [(0, 33), (33, 1), (34, 1)] := by kernel_rfl
theorem sz71 : szOf Try.prog 71 = some 1 := by kernel_rfl
theorem by71 : byOf Try.prog 71 = some 8 := by kernel_rfl
theorem ag71 : aggOf Try.prog 71 = some false := by kernel_rfl
theorem zc71 : zcells Try.prog 71 = some ([Value.nilFunc]) := by kernel_rfl
theorem zv71 : zval Try.prog 71 = some (Value.nilFunc) := by kernel_rfl
theorem sz72 : szOf Try.prog 72 = some 1 := by kernel_rfl
theorem by72 : byOf Try.prog 72 = some 8 := by kernel_rfl
theorem ag72 : aggOf Try.prog 72 = some false := by kernel_rfl
theorem zc72 : zcells Try.prog 72 = some ([Value.nilFunc]) := by kernel_rfl
theorem zv72 : zval Try.prog 72 = some (Value.nilFunc) := by kernel_rfl
theorem sz73 : szOf Try.prog 73 = some 1 := by kernel_rfl
theorem by73 : byOf Try.prog 73 = some 8 := by kernel_rfl
theorem ag73 : aggOf Try.prog 73 = some false := by kernel_rfl
theorem zc73 : zcells Try.prog 73 = some ([Value.nilFunc]) := by kernel_rfl
theorem zv73 : zval Try.prog 73 = some (Value.nilFunc) := by kernel_rfl
theorem sz74 : szOf Try.prog 74 = some 1 := by kernel_rfl
theorem by74 : byOf Try.prog 74 = some 0 := by kernel_rfl
theorem ag74 : aggOf Try.prog 74 = some false := by kernel_rfl
theorem sz75 : szOf Try.prog 75 = some 1 := by kernel_rfl
theorem by75 : byOf Try.prog 75 = some 8 := by kernel_rfl
theorem ag75 : aggOf Try.prog 75 = some false := by kernel_rfl
theorem zc75 : zcells Try.prog 75 = some ([Value.nilFunc]) := by kernel_rfl
theorem zv75 : zval Try.prog 75 = some (Value.nilFunc) := by kernel_rfl
theorem sz76 : szOf Try.prog 76 = some 1 := by kernel_rfl
theorem by76 : byOf Try.prog 76 = some 8 := by kernel_rfl
theorem ag76 : aggOf Try.prog 76 = some false := by kernel_rfl
theorem zc76 : zcells Try.prog 76 = some ([Value.nilFunc]) := by kernel_rfl
theorem zv76 : zval Try.prog 76 = some (Value.nilFunc) := by kernel_rfl
theorem sz77 : szOf Try.prog 77 = some 0 := by kernel_rfl
theorem by77 : byOf Try.prog 77 = some 0 := by kernel_rfl
theorem ag77 : aggOf Try.prog 77 = some true := by kernel_rfl
theorem zc77 : zcells Try.prog 77 = some ([]) := by kernel_rfl
theorem zv77 : zval Try.prog 77 = some (Value.agg ⟨[]⟩) := by kernel_rfl
theorem pl77 : places Try.prog 77 = some [] := by kernel_rfl
theorem sz78 : szOf Try.prog 78 = some 0 := by kernel_rfl
theorem by78 : byOf Try.prog 78 = some 0 := by kernel_rfl
theorem ag78 : aggOf Try.prog 78 = some true := by kernel_rfl
theorem zc78 : zcells Try.prog 78 = some ([]) := by kernel_rfl
theorem zv78 : zval Try.prog 78 = some (Value.agg ⟨[]⟩) := by kernel_rfl
theorem pl78 : places Try.prog 78 = some [] := by kernel_rfl
theorem sz79 : szOf Try.prog 79 = some 1 := by kernel_rfl
theorem by79 : byOf Try.prog 79 = some 8 := by kernel_rfl
theorem ag79 : aggOf Try.prog 79 = some false := by kernel_rfl
theorem zc79 : zcells Try.prog 79 = some ([Value.map none]) := by kernel_rfl
theorem zv79 : zval Try.prog 79 = some (Value.map none) := by kernel_rfl
theorem mp79 : mapOf Try.prog 79 = some (27, 78) := by kernel_rfl
theorem sz80 : szOf Try.prog 80 = some 1 := by kernel_rfl
theorem by80 : byOf Try.prog 80 = some 8 := by kernel_rfl
theorem ag80 : aggOf Try.prog 80 = some false := by kernel_rfl
theorem zc80 : zcells Try.prog 80 = some ([Value.nilFunc]) := by kernel_rfl
theorem zv80 : zval Try.prog 80 = some (Value.nilFunc) := by kernel_rfl
theorem sz81 : szOf Try.prog 81 = some 1 := by kernel_rfl
theorem by81 : byOf Try.prog 81 = some 0 := by kernel_rfl
theorem ag81 : aggOf Try.prog 81 = some false := by kernel_rfl
theorem sz82 : szOf Try.prog 82 = some 1 := by kernel_rfl
theorem by82 : byOf Try.prog 82 = some 8 := by kernel_rfl
theorem ag82 : aggOf Try.prog 82 = some false := by kernel_rfl
theorem zc82 : zcells Try.prog 82 = some ([Value.nilFunc]) := by kernel_rfl
theorem zv82 : zval Try.prog 82 = some (Value.nilFunc) := by kernel_rfl
theorem sz83 : szOf Try.prog 83 = some 1 := by kernel_rfl
theorem by83 : byOf Try.prog 83 = some 8 := by kernel_rfl
theorem ag83 : aggOf Try.prog 83 = some false := by kernel_rfl
theorem zc83 : zcells Try.prog 83 = some ([Value.nilFunc]) := by kernel_rfl
theorem zv83 : zval Try.prog 83 = some (Value.nilFunc) := by kernel_rfl
theorem sz84 : szOf Try.prog 84 = some 1 := by kernel_rfl
theorem by84 : byOf Try.prog 84 = some 8 := by kernel_rfl
theorem ag84 : aggOf Try.prog 84 = some false := by kernel_rfl
theorem zc84 : zcells Try.prog 84 = some ([Value.nilFunc]) := by kernel_rfl
theorem zv84 : zval Try.prog 84 = some (Value.nilFunc) := by kernel_rfl
theorem sz85 : szOf Try.prog 85 = some 1 := by kernel_rfl
theorem by85 : byOf Try.prog 85 = some 8 := by kernel_rfl
theorem ag85 : aggOf Try.prog 85 = some false := by kernel_rfl
theorem zc85 : zcells Try.prog 85 = some ([Value.nilFunc]) := by kernel_rfl
theorem zv85 : zval Try.prog 85 = some (Value.nilFunc) := by kernel_rfl
theorem sz86 : szOf Try.prog 86 = some 33 := by kernel_rfl
theorem by86 : byOf Try.prog 86 = some 40 := by kernel_rfl
theorem ag86 : aggOf Try.prog 86 = some true := by kernel_rfl
theorem zc86 : zcells Try.prog 86 = some (List.replicate 32 (Value.int .u8 0) ++ [Value.int .i64 0]) := by kernel_rfl
theorem zv86 : zval Try.prog 86 = some (Value.agg ⟨List.replicate 32 (Value.int .u8 0) ++ [Value.int .i64 0]⟩) := by kernel_rfl
theorem fl86_0 : fldOf Try.prog 86 0 = some (0, 25) := by kernel_rfl
theorem fl86_1 : fldOf Try.prog 86 1 = some (32, 3) := by kernel_rfl
theorem pl86 : places Try.prog 86 = some [(0, 32), (32, 1)] := by kernel_rfl
theorem sz87 : szOf Try.prog 87 = some 33 := by kernel_rfl
theorem by87 : byOf Try.prog 87 = some 40 := by kernel_rfl
theorem ag87 : aggOf Try.prog 87 = some true := by kernel_rfl
theorem zc87 : zcells Try.prog 87 = some (List.replicate 32 (Value.int .u8 0) ++ [Value.int .i64 0]) := by kernel_rfl
theorem zv87 : zval Try.prog 87 = some (Value.agg ⟨List.replicate 32 (Value.int .u8 0) ++ [Value.int .i64 0]⟩) := by kernel_rfl
theorem fl87_0 : fldOf Try.prog 87 0 = some (0, 25) := by kernel_rfl
theorem fl87_1 : fldOf Try.prog 87 1 = some (32, 3) := by kernel_rfl
theorem pl87 : places Try.prog 87 = some [(0, 32), (32, 1)] := by kernel_rfl
theorem sz88 : szOf Try.prog 88 = some 4 := by kernel_rfl
theorem by88 : byOf Try.prog 88 = some 56 := by kernel_rfl
theorem ag88 : aggOf Try.prog 88 = some true := by kernel_rfl
theorem zc88 : zcells Try.prog 88 = some ([Value.string ⟨#[]⟩, Value.int .i64 0, Value.int .i64 0, Value.slice none 0 0]) := by kernel_rfl
theorem zv88 : zval Try.prog 88 = some (Value.agg ⟨[Value.string ⟨#[]⟩, Value.int .i64 0, Value.int .i64 0, Value.slice none 0 0]⟩) := by kernel_rfl
theorem fl88_0 : fldOf Try.prog 88 0 = some (0, 9) := by kernel_rfl
theorem fl88_1 : fldOf Try.prog 88 1 = some (1, 3) := by kernel_rfl
theorem fl88_2 : fldOf Try.prog 88 2 = some (2, 3) := by kernel_rfl
theorem fl88_3 : fldOf Try.prog 88 3 = some (3, 29) := by kernel_rfl
theorem pl88 : places Try.prog 88 = some [(0, 1), (1, 1), (2, 1), (3, 1)] := by kernel_rfl
theorem sz89 : szOf Try.prog 89 = some 4 := by kernel_rfl
theorem by89 : byOf Try.prog 89 = some 56 := by kernel_rfl
theorem ag89 : aggOf Try.prog 89 = some true := by kernel_rfl
theorem zc89 : zcells Try.prog 89 = some ([Value.string ⟨#[]⟩, Value.int .i64 0, Value.int .i64 0, Value.slice none 0 0]) := by kernel_rfl
theorem zv89 : zval Try.prog 89 = some (Value.agg ⟨[Value.string ⟨#[]⟩, Value.int .i64 0, Value.int .i64 0, Value.slice none 0 0]⟩) := by kernel_rfl
theorem fl89_0 : fldOf Try.prog 89 0 = some (0, 9) := by kernel_rfl
theorem fl89_1 : fldOf Try.prog 89 1 = some (1, 3) := by kernel_rfl
theorem fl89_2 : fldOf Try.prog 89 2 = some (2, 3) := by kernel_rfl
theorem fl89_3 : fldOf Try.prog 89 3 = some (3, 29) := by kernel_rfl
theorem pl89 : places Try.prog 89 = some [(0, 1), (1, 1), (2, 1), (3, 1)] := by kernel_rfl
theorem sz90 : szOf Try.prog 90 = some 1 := by kernel_rfl
theorem by90 : byOf Try.prog 90 = some 8 := by kernel_rfl
theorem ag90 : aggOf Try.prog 90 = some false := by kernel_rfl
theorem zc90 : zcells Try.prog 90 = some ([Value.nilFunc]) := by kernel_rfl
theorem zv90 : zval Try.prog 90 = some (Value.nilFunc) := by kernel_rfl
theorem sz91 : szOf Try.prog 91 = some 1 := by kernel_rfl
theorem by91 : byOf Try.prog 91 = some 8 := by kernel_rfl
theorem ag91 : aggOf Try.prog 91 = some false := by kernel_rfl
theorem zc91 : zcells Try.prog 91 = some ([Value.nilFunc]) := by kernel_rfl
theorem zv91 : zval Try.prog 91 = some (Value.nilFunc) := by kernel_rfl
theorem sz92 : szOf Try.prog 92 = some 1 := by kernel_rfl
theorem by92 : byOf Try.prog 92 = some 8 := by kernel_rfl
theorem ag92 : aggOf Try.prog 92 = some false := by kernel_rfl
theorem zc92 : zcells Try.prog 92 = some ([Value.nilFunc]) := by kernel_rfl
theorem zv92 : zval Try.prog 92 = some (Value.nilFunc) := by kernel_rfl
theorem sz93 : szOf Try.prog 93 = some 1 := by kernel_rfl
theorem by93 : byOf Try.prog 93 = some 0 := by kernel_rfl
theorem ag93 : aggOf Try.prog 93 = some false := by kernel_rfl
theorem sz94 : szOf Try.prog 94 = some 1 := by kernel_rfl
theorem by94 : byOf Try.prog 94 = some 8 := by kernel_rfl
theorem ag94 : aggOf Try.prog 94 = some false := by kernel_rfl
theorem zc94 : zcells Try.prog 94 = some ([Value.map none]) := by kernel_rfl
theorem zv94 : zval Try.prog 94 = some (Value.map none) := by kernel_rfl
theorem mp94 : mapOf Try.prog 94 = some (27, 3) := by kernel_rfl
theorem sz95 : szOf Try.prog 95 = some 1 := by kernel_rfl
theorem by95 : byOf Try.prog 95 = some 8 := by kernel_rfl
theorem ag95 : aggOf Try.prog 95 = some false := by kernel_rfl
theorem zc95 : zcells Try.prog 95 = some ([Value.nilFunc]) := by kernel_rfl
theorem zv95 : zval Try.prog 95 = some (Value.nilFunc) := by kernel_rfl
theorem sz96 : szOf Try.prog 96 = some 1 := by kernel_rfl
theorem by96 : byOf Try.prog 96 = some 8 := by kernel_rfl
theorem ag96 : aggOf Try.prog 96 = some false := by kernel_rfl
theorem zc96 : zcells Try.prog 96 = some ([Value.pointer none]) := by kernel_rfl
theorem zv96 : zval Try.prog 96 = some (Value.pointer none) := by kernel_rfl
theorem me96_Len : methOf Try.prog 96 "Len" = some (54, false) := by kernel_rfl
theorem me96_Less : methOf Try.prog 96 "Less" = some (107, false) := by kernel_rfl
theorem me96_Pop : methOf Try.prog 96 "Pop" = some (108, true) := by kernel_rfl
theorem me96_Push : methOf Try.prog 96 "Push" = some (109, true) := by kernel_rfl
theorem me96_Swap : methOf Try.prog 96 "Swap" = some (110, false) := by kernel_rfl
theorem sz97 : szOf Try.prog 97 = some 1 := by kernel_rfl
theorem by97 : byOf Try.prog 97 = some 24 := by kernel_rfl
theorem ag97 : aggOf Try.prog 97 = some false := by kernel_rfl
theorem zc97 : zcells Try.prog 97 = some ([Value.slice none 0 0]) := by kernel_rfl
theorem zv97 : zval Try.prog 97 = some (Value.slice none 0 0) := by kernel_rfl
theorem sl97 : sliceOf Try.prog 97 = some 27 := by kernel_rfl
theorem me97_Len : methOf Try.prog 97 "Len" = some (54, false) := by kernel_rfl
theorem me97_Less : methOf Try.prog 97 "Less" = some (107, false) := by kernel_rfl
theorem me97_Swap : methOf Try.prog 97 "Swap" = some (110, false) := by kernel_rfl
theorem sz98 : szOf Try.prog 98 = some 1 := by kernel_rfl
theorem by98 : byOf Try.prog 98 = some 8 := by kernel_rfl
theorem ag98 : aggOf Try.prog 98 = some false := by kernel_rfl
theorem zc98 : zcells Try.prog 98 = some ([Value.nilFunc]) := by kernel_rfl
theorem zv98 : zval Try.prog 98 = some (Value.nilFunc) := by kernel_rfl
theorem sz99 : szOf Try.prog 99 = some 1 := by kernel_rfl
theorem by99 : byOf Try.prog 99 = some 8 := by kernel_rfl
theorem ag99 : aggOf Try.prog 99 = some false := by kernel_rfl
theorem zc99 : zcells Try.prog 99 = some ([Value.nilFunc]) := by kernel_rfl
theorem zv99 : zval Try.prog 99 = some (Value.nilFunc) := by kernel_rfl
theorem sz100 : szOf Try.prog 100 = some 1 := by kernel_rfl
theorem by100 : byOf Try.prog 100 = some 0 := by kernel_rfl
theorem ag100 : aggOf Try.prog 100 = some false := by kernel_rfl
theorem sz101 : szOf Try.prog 101 = some 1 := by kernel_rfl
theorem by101 : byOf Try.prog 101 = some 8 := by kernel_rfl
theorem ag101 : aggOf Try.prog 101 = some false := by kernel_rfl
theorem zc101 : zcells Try.prog 101 = some ([Value.nilFunc]) := by kernel_rfl
theorem zv101 : zval Try.prog 101 = some (Value.nilFunc) := by kernel_rfl
theorem sz102 : szOf Try.prog 102 = some 1 := by kernel_rfl
theorem by102 : byOf Try.prog 102 = some 8 := by kernel_rfl
theorem ag102 : aggOf Try.prog 102 = some false := by kernel_rfl
theorem zc102 : zcells Try.prog 102 = some ([Value.nilFunc]) := by kernel_rfl
theorem zv102 : zval Try.prog 102 = some (Value.nilFunc) := by kernel_rfl
theorem sz103 : szOf Try.prog 103 = some 1 := by kernel_rfl
theorem by103 : byOf Try.prog 103 = some 8 := by kernel_rfl
theorem ag103 : aggOf Try.prog 103 = some false := by kernel_rfl
theorem zc103 : zcells Try.prog 103 = some ([Value.nilFunc]) := by kernel_rfl
theorem zv103 : zval Try.prog 103 = some (Value.nilFunc) := by kernel_rfl
theorem sz104 : szOf Try.prog 104 = some 1 := by kernel_rfl
theorem by104 : byOf Try.prog 104 = some 0 := by kernel_rfl
theorem ag104 : aggOf Try.prog 104 = some false := by kernel_rfl
theorem sz105 : szOf Try.prog 105 = some 1 := by kernel_rfl
theorem by105 : byOf Try.prog 105 = some 8 := by kernel_rfl
theorem ag105 : aggOf Try.prog 105 = some false := by kernel_rfl
theorem zc105 : zcells Try.prog 105 = some ([Value.nilFunc]) := by kernel_rfl
theorem zv105 : zval Try.prog 105 = some (Value.nilFunc) := by kernel_rfl
theorem sz106 : szOf Try.prog 106 = some 102 := by kernel_rfl
theorem by106 : byOf Try.prog 106 = some 176 := by kernel_rfl
theorem ag106 : aggOf Try.prog 106 = some true := by kernel_rfl
theorem zc106 : zcells Try.prog 106 = some (List.replicate 32 (Value.int .u8 0) ++ [Value.int .i64 0, Value.int .i64 0] ++ List.replicate 32 (Value.int .u8 0) ++ [Value.int .i64 0] ++ List.replicate 32 (Value.int .u8 0) ++ [Value.int .i64 0, Value.slice none 0 0, Value.slice none 0 0]) := by kernel_rfl
theorem zv106 : zval Try.prog 106 = some (Value.agg ⟨List.replicate 32 (Value.int .u8 0) ++ [Value.int .i64 0, Value.int .i64 0] ++ List.replicate 32 (Value.int .u8 0) ++ [Value.int .i64 0] ++ List.replicate 32 (Value.int .u8 0) ++ [Value.int .i64 0, Value.slice none 0 0, Value.slice none 0 0]⟩) := by kernel_rfl
theorem fl106_0 : fldOf Try.prog 106 0 = some (0, 25) := by kernel_rfl
theorem fl106_1 : fldOf Try.prog 106 1 = some (32, 3) := by kernel_rfl
theorem fl106_2 : fldOf Try.prog 106 2 = some (33, 3) := by kernel_rfl
theorem fl106_3 : fldOf Try.prog 106 3 = some (34, 27) := by kernel_rfl
theorem fl106_4 : fldOf Try.prog 106 4 = some (67, 27) := by kernel_rfl
theorem fl106_5 : fldOf Try.prog 106 5 = some (100, 28) := by kernel_rfl
theorem fl106_6 : fldOf Try.prog 106 6 = some (101, 29) := by kernel_rfl
theorem pl106 : places Try.prog 106 = some [(0, 32), (32, 1), (33, 1), (34, 33), (67, 33), (100, 1), (101, 1)] := by kernel_rfl
theorem sz107 : szOf Try.prog 107 = some 1 := by kernel_rfl
theorem by107 : byOf Try.prog 107 = some 8 := by kernel_rfl
theorem ag107 : aggOf Try.prog 107 = some false := by kernel_rfl
theorem zc107 : zcells Try.prog 107 = some ([Value.nilFunc]) := by kernel_rfl
theorem zv107 : zval Try.prog 107 = some (Value.nilFunc) := by kernel_rfl
theorem sz108 : szOf Try.prog 108 = some 1 := by kernel_rfl
theorem by108 : byOf Try.prog 108 = some 8 := by kernel_rfl
theorem ag108 : aggOf Try.prog 108 = some false := by kernel_rfl
theorem zc108 : zcells Try.prog 108 = some ([Value.nilFunc]) := by kernel_rfl
theorem zv108 : zval Try.prog 108 = some (Value.nilFunc) := by kernel_rfl
theorem sz109 : szOf Try.prog 109 = some 1 := by kernel_rfl
theorem by109 : byOf Try.prog 109 = some 8 := by kernel_rfl
theorem ag109 : aggOf Try.prog 109 = some false := by kernel_rfl
theorem zc109 : zcells Try.prog 109 = some ([Value.nilFunc]) := by kernel_rfl
theorem zv109 : zval Try.prog 109 = some (Value.nilFunc) := by kernel_rfl
theorem sz110 : szOf Try.prog 110 = some 1 := by kernel_rfl
theorem by110 : byOf Try.prog 110 = some 8 := by kernel_rfl
theorem ag110 : aggOf Try.prog 110 = some false := by kernel_rfl
theorem zc110 : zcells Try.prog 110 = some ([Value.nilFunc]) := by kernel_rfl
theorem zv110 : zval Try.prog 110 = some (Value.nilFunc) := by kernel_rfl
theorem sz111 : szOf Try.prog 111 = some 1 := by kernel_rfl
theorem by111 : byOf Try.prog 111 = some 8 := by kernel_rfl
theorem ag111 : aggOf Try.prog 111 = some false := by kernel_rfl
theorem zc111 : zcells Try.prog 111 = some ([Value.nilFunc]) := by kernel_rfl
theorem zv111 : zval Try.prog 111 = some (Value.nilFunc) := by kernel_rfl
theorem sz112 : szOf Try.prog 112 = some 1 := by kernel_rfl
theorem by112 : byOf Try.prog 112 = some 8 := by kernel_rfl
theorem ag112 : aggOf Try.prog 112 = some false := by kernel_rfl
theorem zc112 : zcells Try.prog 112 = some ([Value.nilFunc]) := by kernel_rfl
theorem zv112 : zval Try.prog 112 = some (Value.nilFunc) := by kernel_rfl
theorem sz113 : szOf Try.prog 113 = some 1 := by kernel_rfl
theorem by113 : byOf Try.prog 113 = some 8 := by kernel_rfl
theorem ag113 : aggOf Try.prog 113 = some false := by kernel_rfl
theorem zc113 : zcells Try.prog 113 = some ([Value.nilFunc]) := by kernel_rfl
theorem zv113 : zval Try.prog 113 = some (Value.nilFunc) := by kernel_rfl
theorem sz114 : szOf Try.prog 114 = some 1 := by kernel_rfl
theorem by114 : byOf Try.prog 114 = some 8 := by kernel_rfl
theorem ag114 : aggOf Try.prog 114 = some false := by kernel_rfl
theorem zc114 : zcells Try.prog 114 = some ([Value.nilFunc]) := by kernel_rfl
theorem zv114 : zval Try.prog 114 = some (Value.nilFunc) := by kernel_rfl
theorem sz115 : szOf Try.prog 115 = some 1 := by kernel_rfl
theorem by115 : byOf Try.prog 115 = some 8 := by kernel_rfl
theorem ag115 : aggOf Try.prog 115 = some false := by kernel_rfl
theorem zc115 : zcells Try.prog 115 = some ([Value.nilFunc]) := by kernel_rfl
theorem zv115 : zval Try.prog 115 = some (Value.nilFunc) := by kernel_rfl
theorem sz116 : szOf Try.prog 116 = some 1 := by kernel_rfl
theorem by116 : byOf Try.prog 116 = some 8 := by kernel_rfl
theorem ag116 : aggOf Try.prog 116 = some false := by kernel_rfl
theorem zc116 : zcells Try.prog 116 = some ([Value.nilFunc]) := by kernel_rfl
theorem zv116 : zval Try.prog 116 = some (Value.nilFunc) := by kernel_rfl
theorem sz117 : szOf Try.prog 117 = some 1 := by kernel_rfl
theorem by117 : byOf Try.prog 117 = some 8 := by kernel_rfl
theorem ag117 : aggOf Try.prog 117 = some false := by kernel_rfl
theorem zc117 : zcells Try.prog 117 = some ([Value.nilFunc]) := by kernel_rfl
theorem zv117 : zval Try.prog 117 = some (Value.nilFunc) := by kernel_rfl
theorem sz118 : szOf Try.prog 118 = some 1 := by kernel_rfl
theorem by118 : byOf Try.prog 118 = some 8 := by kernel_rfl
theorem ag118 : aggOf Try.prog 118 = some false := by kernel_rfl
theorem zc118 : zcells Try.prog 118 = some ([Value.nilFunc]) := by kernel_rfl
theorem zv118 : zval Try.prog 118 = some (Value.nilFunc) := by kernel_rfl
theorem sz119 : szOf Try.prog 119 = some 1 := by kernel_rfl
theorem by119 : byOf Try.prog 119 = some 0 := by kernel_rfl
theorem ag119 : aggOf Try.prog 119 = some false := by kernel_rfl
theorem sz120 : szOf Try.prog 120 = some 1 := by kernel_rfl
theorem by120 : byOf Try.prog 120 = some 8 := by kernel_rfl
theorem ag120 : aggOf Try.prog 120 = some false := by kernel_rfl
theorem zc120 : zcells Try.prog 120 = some ([Value.nilFunc]) := by kernel_rfl
theorem zv120 : zval Try.prog 120 = some (Value.nilFunc) := by kernel_rfl
theorem sz121 : szOf Try.prog 121 = some 1 := by kernel_rfl
theorem by121 : byOf Try.prog 121 = some 16 := by kernel_rfl
theorem ag121 : aggOf Try.prog 121 = some false := by kernel_rfl
theorem zc121 : zcells Try.prog 121 = some ([Value.nilIface]) := by kernel_rfl
theorem zv121 : zval Try.prog 121 = some (Value.nilIface) := by kernel_rfl
theorem sz122 : szOf Try.prog 122 = some 1 := by kernel_rfl
theorem by122 : byOf Try.prog 122 = some 16 := by kernel_rfl
theorem ag122 : aggOf Try.prog 122 = some false := by kernel_rfl
theorem zc122 : zcells Try.prog 122 = some ([Value.nilIface]) := by kernel_rfl
theorem zv122 : zval Try.prog 122 = some (Value.nilIface) := by kernel_rfl
theorem sz123 : szOf Try.prog 123 = some 1 := by kernel_rfl
theorem by123 : byOf Try.prog 123 = some 8 := by kernel_rfl
theorem ag123 : aggOf Try.prog 123 = some false := by kernel_rfl
theorem zc123 : zcells Try.prog 123 = some ([Value.nilFunc]) := by kernel_rfl
theorem zv123 : zval Try.prog 123 = some (Value.nilFunc) := by kernel_rfl
theorem sz124 : szOf Try.prog 124 = some 1 := by kernel_rfl
theorem by124 : byOf Try.prog 124 = some 8 := by kernel_rfl
theorem ag124 : aggOf Try.prog 124 = some false := by kernel_rfl
theorem zc124 : zcells Try.prog 124 = some ([Value.nilFunc]) := by kernel_rfl
theorem zv124 : zval Try.prog 124 = some (Value.nilFunc) := by kernel_rfl
theorem sz125 : szOf Try.prog 125 = some 1 := by kernel_rfl
theorem by125 : byOf Try.prog 125 = some 8 := by kernel_rfl
theorem ag125 : aggOf Try.prog 125 = some false := by kernel_rfl
theorem zc125 : zcells Try.prog 125 = some ([Value.nilFunc]) := by kernel_rfl
theorem zv125 : zval Try.prog 125 = some (Value.nilFunc) := by kernel_rfl
theorem sz126 : szOf Try.prog 126 = some 1 := by kernel_rfl
theorem by126 : byOf Try.prog 126 = some 8 := by kernel_rfl
theorem ag126 : aggOf Try.prog 126 = some false := by kernel_rfl
theorem zc126 : zcells Try.prog 126 = some ([Value.nilFunc]) := by kernel_rfl
theorem zv126 : zval Try.prog 126 = some (Value.nilFunc) := by kernel_rfl
theorem sz127 : szOf Try.prog 127 = some 1 := by kernel_rfl
theorem by127 : byOf Try.prog 127 = some 8 := by kernel_rfl
theorem ag127 : aggOf Try.prog 127 = some false := by kernel_rfl
theorem zc127 : zcells Try.prog 127 = some ([Value.nilFunc]) := by kernel_rfl
theorem zv127 : zval Try.prog 127 = some (Value.nilFunc) := by kernel_rfl
theorem sz128 : szOf Try.prog 128 = some 1 := by kernel_rfl
theorem by128 : byOf Try.prog 128 = some 8 := by kernel_rfl
theorem ag128 : aggOf Try.prog 128 = some false := by kernel_rfl
theorem zc128 : zcells Try.prog 128 = some ([Value.nilFunc]) := by kernel_rfl
theorem zv128 : zval Try.prog 128 = some (Value.nilFunc) := by kernel_rfl
theorem sz129 : szOf Try.prog 129 = some 1 := by kernel_rfl
theorem by129 : byOf Try.prog 129 = some 8 := by kernel_rfl
theorem ag129 : aggOf Try.prog 129 = some false := by kernel_rfl
theorem zc129 : zcells Try.prog 129 = some ([Value.nilFunc]) := by kernel_rfl
theorem zv129 : zval Try.prog 129 = some (Value.nilFunc) := by kernel_rfl
theorem sz130 : szOf Try.prog 130 = some 1 := by kernel_rfl
theorem by130 : byOf Try.prog 130 = some 8 := by kernel_rfl
theorem ag130 : aggOf Try.prog 130 = some false := by kernel_rfl
theorem zc130 : zcells Try.prog 130 = some ([Value.nilFunc]) := by kernel_rfl
theorem zv130 : zval Try.prog 130 = some (Value.nilFunc) := by kernel_rfl
theorem sz131 : szOf Try.prog 131 = some 1 := by kernel_rfl
theorem by131 : byOf Try.prog 131 = some 8 := by kernel_rfl
theorem ag131 : aggOf Try.prog 131 = some false := by kernel_rfl
theorem zc131 : zcells Try.prog 131 = some ([Value.nilFunc]) := by kernel_rfl
theorem zv131 : zval Try.prog 131 = some (Value.nilFunc) := by kernel_rfl
theorem sz132 : szOf Try.prog 132 = some 1 := by kernel_rfl
theorem by132 : byOf Try.prog 132 = some 8 := by kernel_rfl
theorem ag132 : aggOf Try.prog 132 = some false := by kernel_rfl
theorem zc132 : zcells Try.prog 132 = some ([Value.nilFunc]) := by kernel_rfl
theorem zv132 : zval Try.prog 132 = some (Value.nilFunc) := by kernel_rfl
theorem sz133 : szOf Try.prog 133 = some 1 := by kernel_rfl
theorem by133 : byOf Try.prog 133 = some 8 := by kernel_rfl
theorem ag133 : aggOf Try.prog 133 = some false := by kernel_rfl
theorem zc133 : zcells Try.prog 133 = some ([Value.nilFunc]) := by kernel_rfl
theorem zv133 : zval Try.prog 133 = some (Value.nilFunc) := by kernel_rfl
theorem sz134 : szOf Try.prog 134 = some 1 := by kernel_rfl
theorem by134 : byOf Try.prog 134 = some 8 := by kernel_rfl
theorem ag134 : aggOf Try.prog 134 = some false := by kernel_rfl
theorem zc134 : zcells Try.prog 134 = some ([Value.nilFunc]) := by kernel_rfl
theorem zv134 : zval Try.prog 134 = some (Value.nilFunc) := by kernel_rfl
theorem sz135 : szOf Try.prog 135 = some 1 := by kernel_rfl
theorem by135 : byOf Try.prog 135 = some 8 := by kernel_rfl
theorem ag135 : aggOf Try.prog 135 = some false := by kernel_rfl
theorem zc135 : zcells Try.prog 135 = some ([Value.nilFunc]) := by kernel_rfl
theorem zv135 : zval Try.prog 135 = some (Value.nilFunc) := by kernel_rfl
theorem sz136 : szOf Try.prog 136 = some 1 := by kernel_rfl
theorem by136 : byOf Try.prog 136 = some 8 := by kernel_rfl
theorem ag136 : aggOf Try.prog 136 = some false := by kernel_rfl
theorem zc136 : zcells Try.prog 136 = some ([Value.nilFunc]) := by kernel_rfl
theorem zv136 : zval Try.prog 136 = some (Value.nilFunc) := by kernel_rfl
theorem sz137 : szOf Try.prog 137 = some 1 := by kernel_rfl
theorem by137 : byOf Try.prog 137 = some 8 := by kernel_rfl
theorem ag137 : aggOf Try.prog 137 = some false := by kernel_rfl
theorem zc137 : zcells Try.prog 137 = some ([Value.nilFunc]) := by kernel_rfl
theorem zv137 : zval Try.prog 137 = some (Value.nilFunc) := by kernel_rfl
theorem sz138 : szOf Try.prog 138 = some 1 := by kernel_rfl
theorem by138 : byOf Try.prog 138 = some 8 := by kernel_rfl
theorem ag138 : aggOf Try.prog 138 = some false := by kernel_rfl
theorem zc138 : zcells Try.prog 138 = some ([Value.nilFunc]) := by kernel_rfl
theorem zv138 : zval Try.prog 138 = some (Value.nilFunc) := by kernel_rfl
theorem sz141 : szOf Try.prog 141 = some 0 := by kernel_rfl
theorem by141 : byOf Try.prog 141 = some 0 := by kernel_rfl
theorem ag141 : aggOf Try.prog 141 = some true := by kernel_rfl
theorem zc141 : zcells Try.prog 141 = some ([]) := by kernel_rfl
theorem zv141 : zval Try.prog 141 = some (Value.agg ⟨[]⟩) := by kernel_rfl
theorem ar141 : arrOf Try.prog 141 = some (0, 16) := by kernel_rfl
theorem sz142 : szOf Try.prog 142 = some 0 := by kernel_rfl
theorem by142 : byOf Try.prog 142 = some 0 := by kernel_rfl
theorem ag142 : aggOf Try.prog 142 = some true := by kernel_rfl
theorem zc142 : zcells Try.prog 142 = some ([]) := by kernel_rfl
theorem zv142 : zval Try.prog 142 = some (Value.agg ⟨[]⟩) := by kernel_rfl
theorem fl142_0 : fldOf Try.prog 142 0 = some (0, 141) := by kernel_rfl
theorem pl142 : places Try.prog 142 = some [(0, 0)] := by kernel_rfl
theorem sz144 : szOf Try.prog 144 = some 1 := by kernel_rfl
theorem by144 : byOf Try.prog 144 = some 4 := by kernel_rfl
theorem ag144 : aggOf Try.prog 144 = some false := by kernel_rfl
theorem zc144 : zcells Try.prog 144 = some ([Value.int .u32 0]) := by kernel_rfl
theorem zv144 : zval Try.prog 144 = some (Value.int .u32 0) := by kernel_rfl
theorem sz147 : szOf Try.prog 147 = some 1 := by kernel_rfl
theorem by147 : byOf Try.prog 147 = some 8 := by kernel_rfl
theorem ag147 : aggOf Try.prog 147 = some false := by kernel_rfl
theorem zc147 : zcells Try.prog 147 = some ([Value.nilFunc]) := by kernel_rfl
theorem zv147 : zval Try.prog 147 = some (Value.nilFunc) := by kernel_rfl
theorem sz148 : szOf Try.prog 148 = some 1 := by kernel_rfl
theorem by148 : byOf Try.prog 148 = some 8 := by kernel_rfl
theorem ag148 : aggOf Try.prog 148 = some false := by kernel_rfl
theorem zc148 : zcells Try.prog 148 = some ([Value.pointer none]) := by kernel_rfl
theorem zv148 : zval Try.prog 148 = some (Value.pointer none) := by kernel_rfl
theorem sz153 : szOf Try.prog 153 = some 1 := by kernel_rfl
theorem by153 : byOf Try.prog 153 = some 8 := by kernel_rfl
theorem ag153 : aggOf Try.prog 153 = some false := by kernel_rfl
theorem zc153 : zcells Try.prog 153 = some ([Value.nilFunc]) := by kernel_rfl
theorem zv153 : zval Try.prog 153 = some (Value.nilFunc) := by kernel_rfl
theorem sz154 : szOf Try.prog 154 = some 1 := by kernel_rfl
theorem by154 : byOf Try.prog 154 = some 8 := by kernel_rfl
theorem ag154 : aggOf Try.prog 154 = some false := by kernel_rfl
theorem zc154 : zcells Try.prog 154 = some ([Value.nilFunc]) := by kernel_rfl
theorem zv154 : zval Try.prog 154 = some (Value.nilFunc) := by kernel_rfl
theorem sz155 : szOf Try.prog 155 = some 1 := by kernel_rfl
theorem by155 : byOf Try.prog 155 = some 8 := by kernel_rfl
theorem ag155 : aggOf Try.prog 155 = some false := by kernel_rfl
theorem zc155 : zcells Try.prog 155 = some ([Value.nilFunc]) := by kernel_rfl
theorem zv155 : zval Try.prog 155 = some (Value.nilFunc) := by kernel_rfl
theorem sz156 : szOf Try.prog 156 = some 1 := by kernel_rfl
theorem by156 : byOf Try.prog 156 = some 24 := by kernel_rfl
theorem ag156 : aggOf Try.prog 156 = some false := by kernel_rfl
theorem zc156 : zcells Try.prog 156 = some ([Value.slice none 0 0]) := by kernel_rfl
theorem zv156 : zval Try.prog 156 = some (Value.slice none 0 0) := by kernel_rfl
theorem sl156 : sliceOf Try.prog 156 = some 5 := by kernel_rfl
theorem sz157 : szOf Try.prog 157 = some 1 := by kernel_rfl
theorem by157 : byOf Try.prog 157 = some 8 := by kernel_rfl
theorem ag157 : aggOf Try.prog 157 = some false := by kernel_rfl
theorem zc157 : zcells Try.prog 157 = some ([Value.nilFunc]) := by kernel_rfl
theorem zv157 : zval Try.prog 157 = some (Value.nilFunc) := by kernel_rfl
theorem sz158 : szOf Try.prog 158 = some 1 := by kernel_rfl
theorem by158 : byOf Try.prog 158 = some 8 := by kernel_rfl
theorem ag158 : aggOf Try.prog 158 = some false := by kernel_rfl
theorem zc158 : zcells Try.prog 158 = some ([Value.nilFunc]) := by kernel_rfl
theorem zv158 : zval Try.prog 158 = some (Value.nilFunc) := by kernel_rfl
theorem sz159 : szOf Try.prog 159 = some 1 := by kernel_rfl
theorem by159 : byOf Try.prog 159 = some 8 := by kernel_rfl
theorem ag159 : aggOf Try.prog 159 = some false := by kernel_rfl
theorem zc159 : zcells Try.prog 159 = some ([Value.pointer none]) := by kernel_rfl
theorem zv159 : zval Try.prog 159 = some (Value.pointer none) := by kernel_rfl
attribute [go_sem] sz0 by0 ag0 sz1 by1 ag1 zc1 zv1 sz2 by2 ag2 zc2 zv2 sz3 by3 ag3 zc3 zv3 sz4 by4 ag4 zc4 zv4 sz5 by5 ag5 zc5 zv5 sz9 by9 ag9 zc9 zv9 sz12 by12 ag12 zc12 zv12 sz13 by13
attribute [go_sem] ag13 zc13 zv13 fl13_0 fl13_1 pl13 sz19 by19 ag19 zc19 zv19 fl19_0 pl19 me19_Error me19_RuntimeError sz20 by20 ag20 zc20 zv20 sz21 by21 ag21 zc21 zv21 sz22 by22 ag22 zc22 zv22 me22_Add me22_Before me22_Copy me22_Has me22_Lines me22_Remove me22_ahead me22_behind me22_count me22_is
attribute [go_sem] me22_line me22_link me22_links me22_there sz23 by23 ag23 zc23 zv23 sz24 by24 ag24 zc24 zv24 ar24 sz25 by25 ag25 zc25 zv25 ar25 sz26 by26 ag26 zc26 zv26 fl26_0 fl26_1 pl26 sz27 by27 ag27 zc27 zv27 fl27_0 fl27_1 pl27 sz28 by28 ag28
attribute [go_sem] zc28 zv28 sl28 sz29 by29 ag29 zc29 zv29 sl29 sz30 by30 ag30 zc30 zv30 fl30_0 fl30_1 fl30_2 fl30_3 fl30_4 fl30_5 fl30_6 pl30 sz31 by31 ag31 zc31 zv31 fl31_0 fl31_1 fl31_2 fl31_3 fl31_4 fl31_5 fl31_6 pl31 me31_formed me31_vertex sz32 by32 ag32
attribute [go_sem] zc32 zv32 sz33 by33 ag33 zc33 zv33 sz34 by34 ag34 zc34 zv34 mp34 sz35 by35 ag35 zc35 zv35 mp35 sz36 by36 ag36 zc36 zv36 fl36_0 fl36_1 fl36_2 fl36_3 pl36 sz37 by37 ag37 zc37 zv37 fl37_0 fl37_1 fl37_2 fl37_3 pl37 sz38
attribute [go_sem] by38 ag38 zc38 zv38 sz39 by39 ag39 zc39 zv39 sz40 by40 ag40 zc40 zv40 sz41 by41 ag41 zc41 zv41 sz42 by42 ag42 zc42 zv42 sz43 by43 ag43 zc43 zv43 sz44 by44 ag44 zc44 zv44 sz45 by45 ag45 zc45 zv45 sz46
attribute [go_sem] by46 ag46 zc46 zv46 sl46 sz47 by47 ag47 zc47 zv47 sz48 by48 ag48 zc48 zv48 sz49 by49 ag49 zc49 zv49 sl49 sz50 by50 ag50 zc50 zv50 sz51 by51 ag51 zc51 zv51 sl51 sz52 by52 ag52 sz53 by53 ag53 zc53 zv53
attribute [go_sem] sz54 by54 ag54 zc54 zv54 sl54 sz55 by55 ag55 zc55 zv55 sz56 by56 ag56 zc56 zv56 sl56 sz57 by57 ag57 zc57 zv57 sz58 by58 ag58 zc58 zv58 sz59 by59 ag59 zc59 zv59 sz60 by60 ag60 zc60 zv60 sz61 by61 ag61
attribute [go_sem] zc61 zv61 sl61 sz62 by62 ag62 zc62 zv62 fl62_0 fl62_1 fl62_2 pl62 sz63 by63 ag63 zc63 zv63 fl63_0 fl63_1 fl63_2 pl63 sz64 by64 ag64 zc64 zv64 sl64 sz65 by65 ag65 zc65 zv65 fl65_0 fl65_1 fl65_2 pl65 sz66 by66 ag66 zc66
attribute [go_sem] zv66 fl66_0 fl66_1 fl66_2 pl66 sz67 by67 ag67 zc67 zv67 sz68 by68 ag68 zc68 zv68 fl68_0 fl68_1 fl68_2 pl68 sz69 by69 ag69 zc69 zv69 fl69_0 fl69_1 fl69_2 pl69 sz70 by70 ag70 zc70 zv70 fl70_0 fl70_1 fl70_2 pl70 sz71 by71 ag71
attribute [go_sem] zc71 zv71 sz72 by72 ag72 zc72 zv72 sz73 by73 ag73 zc73 zv73 sz74 by74 ag74 sz75 by75 ag75 zc75 zv75 sz76 by76 ag76 zc76 zv76 sz77 by77 ag77 zc77 zv77 pl77 sz78 by78 ag78 zc78 zv78 pl78 sz79 by79 ag79
attribute [go_sem] zc79 zv79 mp79 sz80 by80 ag80 zc80 zv80 sz81 by81 ag81 sz82 by82 ag82 zc82 zv82 sz83 by83 ag83 zc83 zv83 sz84 by84 ag84 zc84 zv84 sz85 by85 ag85 zc85 zv85 sz86 by86 ag86 zc86 zv86 fl86_0 fl86_1 pl86 sz87
attribute [go_sem] by87 ag87 zc87 zv87 fl87_0 fl87_1 pl87 sz88 by88 ag88 zc88 zv88 fl88_0 fl88_1 fl88_2 fl88_3 pl88 sz89 by89 ag89 zc89 zv89 fl89_0 fl89_1 fl89_2 fl89_3 pl89 sz90 by90 ag90 zc90 zv90 sz91 by91 ag91 zc91 zv91 sz92 by92 ag92
attribute [go_sem] zc92 zv92 sz93 by93 ag93 sz94 by94 ag94 zc94 zv94 mp94 sz95 by95 ag95 zc95 zv95 sz96 by96 ag96 zc96 zv96 me96_Len me96_Less me96_Pop me96_Push me96_Swap sz97 by97 ag97 zc97 zv97 sl97 me97_Len me97_Less me97_Swap sz98 by98 ag98 zc98 zv98
attribute [go_sem] sz99 by99 ag99 zc99 zv99 sz100 by100 ag100 sz101 by101 ag101 zc101 zv101 sz102 by102 ag102 zc102 zv102 sz103 by103 ag103 zc103 zv103 sz104 by104 ag104 sz105 by105 ag105 zc105 zv105 sz106 by106 ag106 zc106 zv106 fl106_0 fl106_1 fl106_2 fl106_3
attribute [go_sem] fl106_4 fl106_5 fl106_6 pl106 sz107 by107 ag107 zc107 zv107 sz108 by108 ag108 zc108 zv108 sz109 by109 ag109 zc109 zv109 sz110 by110 ag110 zc110 zv110 sz111 by111 ag111 zc111 zv111 sz112 by112 ag112 zc112 zv112 sz113 by113 ag113 zc113 zv113 sz114
attribute [go_sem] by114 ag114 zc114 zv114 sz115 by115 ag115 zc115 zv115 sz116 by116 ag116 zc116 zv116 sz117 by117 ag117 zc117 zv117 sz118 by118 ag118 zc118 zv118 sz119 by119 ag119 sz120 by120 ag120 zc120 zv120 sz121 by121 ag121 zc121 zv121 sz122 by122 ag122
attribute [go_sem] zc122 zv122 sz123 by123 ag123 zc123 zv123 sz124 by124 ag124 zc124 zv124 sz125 by125 ag125 zc125 zv125 sz126 by126 ag126 zc126 zv126 sz127 by127 ag127 zc127 zv127 sz128 by128 ag128 zc128 zv128 sz129 by129 ag129 zc129 zv129 sz130 by130 ag130
attribute [go_sem] zc130 zv130 sz131 by131 ag131 zc131 zv131 sz132 by132 ag132 zc132 zv132 sz133 by133 ag133 zc133 zv133 sz134 by134 ag134 zc134 zv134 sz135 by135 ag135 zc135 zv135 sz136 by136 ag136 zc136 zv136 sz137 by137 ag137 zc137 zv137 sz138 by138 ag138
attribute [go_sem] zc138 zv138 sz141 by141 ag141 zc141 zv141 ar141 sz142 by142 ag142 zc142 zv142 fl142_0 pl142 sz144 by144 ag144 zc144 zv144 sz147 by147 ag147 zc147 zv147 sz148 by148 ag148 zc148 zv148 sz153 by153 ag153 zc153 zv153 sz154 by154 ag154 zc154 zv154
attribute [go_sem] sz155 by155 ag155 zc155 zv155 sz156 by156 ag156 zc156 zv156 sl156 sz157 by157 ag157 zc157 zv157 sz158 by158 ag158 zc158 zv158 sz159 by159 ag159 zc159 zv159
attribute [go_sem] Try.underlying0 Try.underlying1 Try.underlying2 Try.underlying3 Try.underlying4 Try.underlying5 Try.underlying9 Try.underlying12 Try.underlying13 Try.underlying19 Try.underlying20 Try.underlying21 Try.underlying22 Try.underlying23 Try.underlying24 Try.underlying25 Try.underlying26 Try.underlying27 Try.underlying28 Try.underlying29 Try.underlying30 Try.underlying31 Try.underlying32 Try.underlying33 Try.underlying34 Try.underlying35 Try.underlying36 Try.underlying37 Try.underlying38 Try.underlying39 Try.underlying40 Try.underlying41 Try.underlying42 Try.underlying43 Try.underlying44 Try.underlying45 Try.underlying46 Try.underlying47 Try.underlying48 Try.underlying49 Try.underlying50 Try.underlying51 Try.underlying52 Try.underlying53 Try.underlying54 Try.underlying55 Try.underlying56 Try.underlying57 Try.underlying58 Try.underlying59 Try.underlying60 Try.underlying61 Try.underlying62 Try.underlying63 Try.underlying64 Try.underlying65 Try.underlying66 Try.underlying67 Try.underlying68 Try.underlying69 Try.underlying70 Try.underlying71 Try.underlying72 Try.underlying73 Try.underlying74 Try.underlying75 Try.underlying76 Try.underlying77 Try.underlying78 Try.underlying79 Try.underlying80 Try.underlying81 Try.underlying82 Try.underlying83 Try.underlying84 Try.underlying85 Try.underlying86 Try.underlying87 Try.underlying88 Try.underlying89 Try.underlying90 Try.underlying91 Try.underlying92 Try.underlying93 Try.underlying94 Try.underlying95 Try.underlying96 Try.underlying97 Try.underlying98 Try.underlying99 Try.underlying100 Try.underlying101 Try.underlying102 Try.underlying103 Try.underlying104 Try.underlying105 Try.underlying106 Try.underlying107 Try.underlying108 Try.underlying109 Try.underlying110 Try.underlying111 Try.underlying112 Try.underlying113 Try.underlying114 Try.underlying115 Try.underlying116 Try.underlying117 Try.underlying118 Try.underlying119 Try.underlying120 Try.underlying121 Try.underlying122 Try.underlying123 Try.underlying124 Try.underlying125 Try.underlying126 Try.underlying127 Try.underlying128 Try.underlying129 Try.underlying130 Try.underlying131 Try.underlying132 Try.underlying133 Try.underlying134 Try.underlying135 Try.underlying136 Try.underlying137 Try.underlying138 Try.underlying141 Try.underlying142 Try.underlying144 Try.underlying147 Try.underlying148 Try.underlying153 Try.underlying154 Try.underlying155 Try.underlying156 Try.underlying157 Try.underlying158 Try.underlying159
theorem fine : Fine Try.prog := ⟨by kernel_rfl, by decide +kernel⟩
theorem mixed : Try.prog.follows .mixedOrders = true := by kernel_rfl
end Go.AB.Try
