/- A part of the proof: functions of the program, walked, or what operations come to. -/
import Derived.Test.YtpedcchnhjffpaaGreatPvGen
import Derived.Test.YtpedcchnhjffpaaGreatPvWlk
import Derived.Test.YtpedcchnhjffpaaGreatPvApp
import Derived.Test.YtpedcchnhjffpaaGreatPvN1
import Derived.Test.YtpedcchnhjffpaaGreatProg
import Derived.KernelRfl
set_option maxRecDepth 100000
namespace Go.Pv
open Go.Proofs
/-! What is known of the types. -/
@[simp] theorem sz1 : szOf @Tryz.prog 1 = 1 := by kernel_rfl
@[simp] theorem zd1 : zeroD @Tryz.prog 1 = some [.val .nilFunc] := by kernel_rfl
@[simp] theorem ze1 : zeroElem @Tryz.prog 1 = some (.val .nilFunc) := by kernel_rfl
@[simp] theorem bld1 : isBld @Tryz.prog 1 = false := by kernel_rfl
@[simp] theorem sz2 : szOf @Tryz.prog 2 = 1 := by kernel_rfl
@[simp] theorem zd2 : zeroD @Tryz.prog 2 = some [.val (.int .i64 0)] := by kernel_rfl
@[simp] theorem ze2 : zeroElem @Tryz.prog 2 = some (.val (.int .i64 0)) := by kernel_rfl
@[simp] theorem bld2 : isBld @Tryz.prog 2 = false := by kernel_rfl
@[simp] theorem sz3 : szOf @Tryz.prog 3 = 1 := by kernel_rfl
@[simp] theorem zd3 : zeroD @Tryz.prog 3 = some [.val (.int .i64 0)] := by kernel_rfl
@[simp] theorem ze3 : zeroElem @Tryz.prog 3 = some (.val (.int .i64 0)) := by kernel_rfl
@[simp] theorem bld3 : isBld @Tryz.prog 3 = false := by kernel_rfl
@[simp] theorem sz4 : szOf @Tryz.prog 4 = 1 := by kernel_rfl
@[simp] theorem zd4 : zeroD @Tryz.prog 4 = some [.val (.bool false)] := by kernel_rfl
@[simp] theorem ze4 : zeroElem @Tryz.prog 4 = some (.val (.bool false)) := by kernel_rfl
@[simp] theorem bld4 : isBld @Tryz.prog 4 = false := by kernel_rfl
@[simp] theorem sz5 : szOf @Tryz.prog 5 = 1 := by kernel_rfl
@[simp] theorem zd5 : zeroD @Tryz.prog 5 = some [.val (.int .u8 0)] := by kernel_rfl
@[simp] theorem ze5 : zeroElem @Tryz.prog 5 = some (.val (.int .u8 0)) := by kernel_rfl
@[simp] theorem bld5 : isBld @Tryz.prog 5 = false := by kernel_rfl
@[simp] theorem sz6 : szOf @Tryz.prog 6 = 1 := by kernel_rfl
@[simp] theorem zd6 : zeroD @Tryz.prog 6 = some [.val (.int .u8 0)] := by kernel_rfl
@[simp] theorem ze6 : zeroElem @Tryz.prog 6 = some (.val (.int .u8 0)) := by kernel_rfl
@[simp] theorem bld6 : isBld @Tryz.prog 6 = false := by kernel_rfl
@[simp] theorem sz7 : szOf @Tryz.prog 7 = 4 := by kernel_rfl
@[simp] theorem zd7 : zeroD @Tryz.prog 7 = some [.val (.int .i64 0), .val (.int .i64 0), .val (.bool false), .val (.int .u8 0)] := by kernel_rfl
@[simp] theorem ze7 : zeroElem @Tryz.prog 7 = some (.agg [.val (.int .i64 0), .val (.int .i64 0), .val (.bool false), .val (.int .u8 0)]) := by kernel_rfl
@[simp] theorem bld7 : isBld @Tryz.prog 7 = false := by kernel_rfl
@[simp] theorem places7 : placesOf @Tryz.prog 7 = some [(0, 1), (1, 1), (2, 1), (3, 1)] := by kernel_rfl
@[simp] theorem sz8 : szOf @Tryz.prog 8 = 4 := by kernel_rfl
@[simp] theorem zd8 : zeroD @Tryz.prog 8 = some [.val (.int .i64 0), .val (.int .i64 0), .val (.bool false), .val (.int .u8 0)] := by kernel_rfl
@[simp] theorem ze8 : zeroElem @Tryz.prog 8 = some (.agg [.val (.int .i64 0), .val (.int .i64 0), .val (.bool false), .val (.int .u8 0)]) := by kernel_rfl
@[simp] theorem bld8 : isBld @Tryz.prog 8 = false := by kernel_rfl
@[simp] theorem places8 : placesOf @Tryz.prog 8 = some [(0, 1), (1, 1), (2, 1), (3, 1)] := by kernel_rfl
@[simp] theorem sz9 : szOf @Tryz.prog 9 = 1 := by kernel_rfl
@[simp] theorem zd9 : zeroD @Tryz.prog 9 = some [.val (.string ⟨#[]⟩)] := by kernel_rfl
@[simp] theorem ze9 : zeroElem @Tryz.prog 9 = some (.val (.string ⟨#[]⟩)) := by kernel_rfl
@[simp] theorem bld9 : isBld @Tryz.prog 9 = false := by kernel_rfl
@[simp] theorem sz10 : szOf @Tryz.prog 10 = 1 := by kernel_rfl
@[simp] theorem zd10 : zeroD @Tryz.prog 10 = some [.val (.string ⟨#[]⟩)] := by kernel_rfl
@[simp] theorem ze10 : zeroElem @Tryz.prog 10 = some (.val (.string ⟨#[]⟩)) := by kernel_rfl
@[simp] theorem bld10 : isBld @Tryz.prog 10 = false := by kernel_rfl
@[simp] theorem sz11 : szOf @Tryz.prog 11 = 1 := by kernel_rfl
@[simp] theorem zd11 : zeroD @Tryz.prog 11 = some [.val (.string ⟨#[]⟩)] := by kernel_rfl
@[simp] theorem ze11 : zeroElem @Tryz.prog 11 = some (.val (.string ⟨#[]⟩)) := by kernel_rfl
@[simp] theorem bld11 : isBld @Tryz.prog 11 = false := by kernel_rfl
@[simp] theorem sz12 : szOf @Tryz.prog 12 = 1 := by kernel_rfl
@[simp] theorem zd12 : zeroD @Tryz.prog 12 = some [.val (.int .u64 0)] := by kernel_rfl
@[simp] theorem ze12 : zeroElem @Tryz.prog 12 = some (.val (.int .u64 0)) := by kernel_rfl
@[simp] theorem bld12 : isBld @Tryz.prog 12 = false := by kernel_rfl
@[simp] theorem sz13 : szOf @Tryz.prog 13 = 2 := by kernel_rfl
@[simp] theorem zd13 : zeroD @Tryz.prog 13 = some [.val (.string ⟨#[]⟩), .val (.int .u64 0)] := by kernel_rfl
@[simp] theorem ze13 : zeroElem @Tryz.prog 13 = some (.agg [.val (.string ⟨#[]⟩), .val (.int .u64 0)]) := by kernel_rfl
@[simp] theorem bld13 : isBld @Tryz.prog 13 = false := by kernel_rfl
@[simp] theorem places13 : placesOf @Tryz.prog 13 = some [(0, 1), (1, 1)] := by kernel_rfl
@[simp] theorem sz14 : szOf @Tryz.prog 14 = 2 := by kernel_rfl
@[simp] theorem zd14 : zeroD @Tryz.prog 14 = some [.val (.string ⟨#[]⟩), .val (.int .u64 0)] := by kernel_rfl
@[simp] theorem ze14 : zeroElem @Tryz.prog 14 = some (.agg [.val (.string ⟨#[]⟩), .val (.int .u64 0)]) := by kernel_rfl
@[simp] theorem bld14 : isBld @Tryz.prog 14 = false := by kernel_rfl
@[simp] theorem places14 : placesOf @Tryz.prog 14 = some [(0, 1), (1, 1)] := by kernel_rfl
@[simp] theorem sz15 : szOf @Tryz.prog 15 = 1 := by kernel_rfl
@[simp] theorem zd15 : zeroD @Tryz.prog 15 = some [.val (.pointer none)] := by kernel_rfl
@[simp] theorem ze15 : zeroElem @Tryz.prog 15 = some (.val (.pointer none)) := by kernel_rfl
@[simp] theorem bld15 : isBld @Tryz.prog 15 = false := by kernel_rfl
@[simp] theorem sz16 : szOf @Tryz.prog 16 = 1 := by kernel_rfl
@[simp] theorem zd16 : zeroD @Tryz.prog 16 = some [.val (.pointer none)] := by kernel_rfl
@[simp] theorem ze16 : zeroElem @Tryz.prog 16 = some (.val (.pointer none)) := by kernel_rfl
@[simp] theorem bld16 : isBld @Tryz.prog 16 = false := by kernel_rfl
@[simp] theorem sz17 : szOf @Tryz.prog 17 = 1 := by kernel_rfl
@[simp] theorem zd17 : zeroD @Tryz.prog 17 = some [.val (.pointer none)] := by kernel_rfl
@[simp] theorem ze17 : zeroElem @Tryz.prog 17 = some (.val (.pointer none)) := by kernel_rfl
@[simp] theorem bld17 : isBld @Tryz.prog 17 = false := by kernel_rfl
@[simp] theorem sz18 : szOf @Tryz.prog 18 = 1 := by kernel_rfl
@[simp] theorem zd18 : zeroD @Tryz.prog 18 = some [.val (.pointer none)] := by kernel_rfl
@[simp] theorem ze18 : zeroElem @Tryz.prog 18 = some (.agg [.val (.pointer none)]) := by kernel_rfl
@[simp] theorem bld18 : isBld @Tryz.prog 18 = false := by kernel_rfl
@[simp] theorem places18 : placesOf @Tryz.prog 18 = some [(0, 1)] := by kernel_rfl
@[simp] theorem sz19 : szOf @Tryz.prog 19 = 1 := by kernel_rfl
@[simp] theorem zd19 : zeroD @Tryz.prog 19 = some [.val (.pointer none)] := by kernel_rfl
@[simp] theorem ze19 : zeroElem @Tryz.prog 19 = some (.agg [.val (.pointer none)]) := by kernel_rfl
@[simp] theorem bld19 : isBld @Tryz.prog 19 = false := by kernel_rfl
@[simp] theorem places19 : placesOf @Tryz.prog 19 = some [(0, 1)] := by kernel_rfl
@[simp] theorem sz20 : szOf @Tryz.prog 20 = 1 := by kernel_rfl
@[simp] theorem zd20 : zeroD @Tryz.prog 20 = some [.val .nilIface] := by kernel_rfl
@[simp] theorem ze20 : zeroElem @Tryz.prog 20 = some (.val .nilIface) := by kernel_rfl
@[simp] theorem bld20 : isBld @Tryz.prog 20 = false := by kernel_rfl
@[simp] theorem sz21 : szOf @Tryz.prog 21 = 1 := by kernel_rfl
@[simp] theorem zd21 : zeroD @Tryz.prog 21 = some [.val (.int .i32 0)] := by kernel_rfl
@[simp] theorem ze21 : zeroElem @Tryz.prog 21 = some (.val (.int .i32 0)) := by kernel_rfl
@[simp] theorem bld21 : isBld @Tryz.prog 21 = false := by kernel_rfl
@[simp] theorem sz22 : szOf @Tryz.prog 22 = 1 := by kernel_rfl
@[simp] theorem zd22 : zeroD @Tryz.prog 22 = some [.slice 1 0 []] := by kernel_rfl
@[simp] theorem ze22 : zeroElem @Tryz.prog 22 = some (.slice 1 0 []) := by kernel_rfl
@[simp] theorem bld22 : isBld @Tryz.prog 22 = false := by kernel_rfl
@[simp] theorem sz23 : szOf @Tryz.prog 23 = 1 := by kernel_rfl
@[simp] theorem zd23 : zeroD @Tryz.prog 23 = some [.slice 1 0 []] := by kernel_rfl
@[simp] theorem ze23 : zeroElem @Tryz.prog 23 = some (.slice 1 0 []) := by kernel_rfl
@[simp] theorem bld23 : isBld @Tryz.prog 23 = false := by kernel_rfl
@[simp] theorem sz24 : szOf @Tryz.prog 24 = 1 := by kernel_rfl
@[simp] theorem zd24 : zeroD @Tryz.prog 24 = some [.slice 1 0 []] := by kernel_rfl
@[simp] theorem ze24 : zeroElem @Tryz.prog 24 = some (.slice 1 0 []) := by kernel_rfl
@[simp] theorem bld24 : isBld @Tryz.prog 24 = false := by kernel_rfl
@[simp] theorem sz26 : szOf @Tryz.prog 26 = 1 := by kernel_rfl
@[simp] theorem zd26 : zeroD @Tryz.prog 26 = some [.val .nilFunc] := by kernel_rfl
@[simp] theorem ze26 : zeroElem @Tryz.prog 26 = some (.val .nilFunc) := by kernel_rfl
@[simp] theorem bld26 : isBld @Tryz.prog 26 = false := by kernel_rfl
@[simp] theorem sz27 : szOf @Tryz.prog 27 = 1 := by kernel_rfl
@[simp] theorem zd27 : zeroD @Tryz.prog 27 = some [.val (.int .i64 0)] := by kernel_rfl
@[simp] theorem ze27 : zeroElem @Tryz.prog 27 = some (.val (.int .i64 0)) := by kernel_rfl
@[simp] theorem bld27 : isBld @Tryz.prog 27 = false := by kernel_rfl
@[simp] theorem sz29 : szOf @Tryz.prog 29 = 1 := by kernel_rfl
@[simp] theorem zd29 : zeroD @Tryz.prog 29 = some [.val .nilFunc] := by kernel_rfl
@[simp] theorem ze29 : zeroElem @Tryz.prog 29 = some (.val .nilFunc) := by kernel_rfl
@[simp] theorem bld29 : isBld @Tryz.prog 29 = false := by kernel_rfl
@[simp] theorem sz31 : szOf @Tryz.prog 31 = 1 := by kernel_rfl
@[simp] theorem zd31 : zeroD @Tryz.prog 31 = some [.val .nilFunc] := by kernel_rfl
@[simp] theorem ze31 : zeroElem @Tryz.prog 31 = some (.val .nilFunc) := by kernel_rfl
@[simp] theorem bld31 : isBld @Tryz.prog 31 = false := by kernel_rfl
@[simp] theorem sz32 : szOf @Tryz.prog 32 = 1 := by kernel_rfl
@[simp] theorem zd32 : zeroD @Tryz.prog 32 = some [.val .nilFunc] := by kernel_rfl
@[simp] theorem ze32 : zeroElem @Tryz.prog 32 = some (.val .nilFunc) := by kernel_rfl
@[simp] theorem bld32 : isBld @Tryz.prog 32 = false := by kernel_rfl
@[simp] theorem sz33 : szOf @Tryz.prog 33 = 1 := by kernel_rfl
@[simp] theorem zd33 : zeroD @Tryz.prog 33 = some [.val .nilFunc] := by kernel_rfl
@[simp] theorem ze33 : zeroElem @Tryz.prog 33 = some (.val .nilFunc) := by kernel_rfl
@[simp] theorem bld33 : isBld @Tryz.prog 33 = false := by kernel_rfl
@[simp] theorem sz34 : szOf @Tryz.prog 34 = 2 := by kernel_rfl
@[simp] theorem zd34 : zeroD @Tryz.prog 34 = some [.val (.string ⟨#[]⟩), .val (.string ⟨#[]⟩)] := by kernel_rfl
@[simp] theorem ze34 : zeroElem @Tryz.prog 34 = some (.agg [.val (.string ⟨#[]⟩), .val (.string ⟨#[]⟩)]) := by kernel_rfl
@[simp] theorem bld34 : isBld @Tryz.prog 34 = false := by kernel_rfl
@[simp] theorem places34 : placesOf @Tryz.prog 34 = some [(0, 1), (1, 1)] := by kernel_rfl
@[simp] theorem sz35 : szOf @Tryz.prog 35 = 2 := by kernel_rfl
@[simp] theorem zd35 : zeroD @Tryz.prog 35 = some [.val (.string ⟨#[]⟩), .val (.string ⟨#[]⟩)] := by kernel_rfl
@[simp] theorem ze35 : zeroElem @Tryz.prog 35 = some (.agg [.val (.string ⟨#[]⟩), .val (.string ⟨#[]⟩)]) := by kernel_rfl
@[simp] theorem bld35 : isBld @Tryz.prog 35 = false := by kernel_rfl
@[simp] theorem places35 : placesOf @Tryz.prog 35 = some [(0, 1), (1, 1)] := by kernel_rfl
@[simp] theorem sz36 : szOf @Tryz.prog 36 = 1 := by kernel_rfl
@[simp] theorem zd36 : zeroD @Tryz.prog 36 = some [.slice 1 0 []] := by kernel_rfl
@[simp] theorem ze36 : zeroElem @Tryz.prog 36 = some (.slice 1 0 []) := by kernel_rfl
@[simp] theorem bld36 : isBld @Tryz.prog 36 = false := by kernel_rfl
@[simp] theorem sz37 : szOf @Tryz.prog 37 = 1 := by kernel_rfl
@[simp] theorem zd37 : zeroD @Tryz.prog 37 = some [.slice 1 0 []] := by kernel_rfl
@[simp] theorem ze37 : zeroElem @Tryz.prog 37 = some (.slice 1 0 []) := by kernel_rfl
@[simp] theorem bld37 : isBld @Tryz.prog 37 = false := by kernel_rfl
@[simp] theorem sz38 : szOf @Tryz.prog 38 = 1 := by kernel_rfl
@[simp] theorem zd38 : zeroD @Tryz.prog 38 = some [.val .nilFunc] := by kernel_rfl
@[simp] theorem ze38 : zeroElem @Tryz.prog 38 = some (.val .nilFunc) := by kernel_rfl
@[simp] theorem bld38 : isBld @Tryz.prog 38 = false := by kernel_rfl
@[simp] theorem sz39 : szOf @Tryz.prog 39 = 1 := by kernel_rfl
@[simp] theorem zd39 : zeroD @Tryz.prog 39 = some [.val .nilFunc] := by kernel_rfl
@[simp] theorem ze39 : zeroElem @Tryz.prog 39 = some (.val .nilFunc) := by kernel_rfl
@[simp] theorem bld39 : isBld @Tryz.prog 39 = false := by kernel_rfl
@[simp] theorem sz40 : szOf @Tryz.prog 40 = 1 := by kernel_rfl
@[simp] theorem zd40 : zeroD @Tryz.prog 40 = some [.val .nilFunc] := by kernel_rfl
@[simp] theorem ze40 : zeroElem @Tryz.prog 40 = some (.val .nilFunc) := by kernel_rfl
@[simp] theorem bld40 : isBld @Tryz.prog 40 = false := by kernel_rfl
@[simp] theorem sz42 : szOf @Tryz.prog 42 = 1 := by kernel_rfl
@[simp] theorem zd42 : zeroD @Tryz.prog 42 = some [.val .nilFunc] := by kernel_rfl
@[simp] theorem ze42 : zeroElem @Tryz.prog 42 = some (.val .nilFunc) := by kernel_rfl
@[simp] theorem bld42 : isBld @Tryz.prog 42 = false := by kernel_rfl
@[simp] theorem sz43 : szOf @Tryz.prog 43 = 1 := by kernel_rfl
@[simp] theorem zd43 : zeroD @Tryz.prog 43 = some [.slice 1 0 []] := by kernel_rfl
@[simp] theorem ze43 : zeroElem @Tryz.prog 43 = some (.slice 1 0 []) := by kernel_rfl
@[simp] theorem bld43 : isBld @Tryz.prog 43 = false := by kernel_rfl
@[simp] theorem sz44 : szOf @Tryz.prog 44 = 5 := by kernel_rfl
@[simp] theorem zd44 : zeroD @Tryz.prog 44 = some [.val (.string ⟨#[]⟩), .val (.string ⟨#[]⟩), .val (.string ⟨#[]⟩), .val (.int .i64 0), .val (.bool false)] := by kernel_rfl
@[simp] theorem ze44 : zeroElem @Tryz.prog 44 = some (.agg [.val (.string ⟨#[]⟩), .val (.string ⟨#[]⟩), .val (.string ⟨#[]⟩), .val (.int .i64 0), .val (.bool false)]) := by kernel_rfl
@[simp] theorem bld44 : isBld @Tryz.prog 44 = false := by kernel_rfl
@[simp] theorem places44 : placesOf @Tryz.prog 44 = some [(0, 1), (1, 1), (2, 1), (3, 1), (4, 1)] := by kernel_rfl
@[simp] theorem sz45 : szOf @Tryz.prog 45 = 5 := by kernel_rfl
@[simp] theorem zd45 : zeroD @Tryz.prog 45 = some [.val (.string ⟨#[]⟩), .val (.string ⟨#[]⟩), .val (.string ⟨#[]⟩), .val (.int .i64 0), .val (.bool false)] := by kernel_rfl
@[simp] theorem ze45 : zeroElem @Tryz.prog 45 = some (.agg [.val (.string ⟨#[]⟩), .val (.string ⟨#[]⟩), .val (.string ⟨#[]⟩), .val (.int .i64 0), .val (.bool false)]) := by kernel_rfl
@[simp] theorem bld45 : isBld @Tryz.prog 45 = false := by kernel_rfl
@[simp] theorem places45 : placesOf @Tryz.prog 45 = some [(0, 1), (1, 1), (2, 1), (3, 1), (4, 1)] := by kernel_rfl
@[simp] theorem sz47 : szOf @Tryz.prog 47 = 1 := by kernel_rfl
@[simp] theorem zd47 : zeroD @Tryz.prog 47 = some [.val .nilFunc] := by kernel_rfl
@[simp] theorem ze47 : zeroElem @Tryz.prog 47 = some (.val .nilFunc) := by kernel_rfl
@[simp] theorem bld47 : isBld @Tryz.prog 47 = false := by kernel_rfl
@[simp] theorem sz49 : szOf @Tryz.prog 49 = 1 := by kernel_rfl
@[simp] theorem zd49 : zeroD @Tryz.prog 49 = some [.val .nilFunc] := by kernel_rfl
@[simp] theorem ze49 : zeroElem @Tryz.prog 49 = some (.val .nilFunc) := by kernel_rfl
@[simp] theorem bld49 : isBld @Tryz.prog 49 = false := by kernel_rfl
@[simp] theorem sz50 : szOf @Tryz.prog 50 = 1 := by kernel_rfl
@[simp] theorem zd50 : zeroD @Tryz.prog 50 = some [.val .nilFunc] := by kernel_rfl
@[simp] theorem ze50 : zeroElem @Tryz.prog 50 = some (.val .nilFunc) := by kernel_rfl
@[simp] theorem bld50 : isBld @Tryz.prog 50 = false := by kernel_rfl
@[simp] theorem sz51 : szOf @Tryz.prog 51 = 1 := by kernel_rfl
@[simp] theorem zd51 : zeroD @Tryz.prog 51 = some [.val .nilFunc] := by kernel_rfl
@[simp] theorem ze51 : zeroElem @Tryz.prog 51 = some (.val .nilFunc) := by kernel_rfl
@[simp] theorem bld51 : isBld @Tryz.prog 51 = false := by kernel_rfl
@[simp] theorem sz52 : szOf @Tryz.prog 52 = 1 := by kernel_rfl
@[simp] theorem zd52 : zeroD @Tryz.prog 52 = some [.val .nilFunc] := by kernel_rfl
@[simp] theorem ze52 : zeroElem @Tryz.prog 52 = some (.val .nilFunc) := by kernel_rfl
@[simp] theorem bld52 : isBld @Tryz.prog 52 = false := by kernel_rfl
@[simp] theorem sz53 : szOf @Tryz.prog 53 = 1 := by kernel_rfl
@[simp] theorem zd53 : zeroD @Tryz.prog 53 = some [.val .nilFunc] := by kernel_rfl
@[simp] theorem ze53 : zeroElem @Tryz.prog 53 = some (.val .nilFunc) := by kernel_rfl
@[simp] theorem bld53 : isBld @Tryz.prog 53 = false := by kernel_rfl
@[simp] theorem sz54 : szOf @Tryz.prog 54 = 5 := by kernel_rfl
@[simp] theorem zd54 : zeroD @Tryz.prog 54 = some [.val (.string ⟨#[]⟩), .val (.string ⟨#[]⟩), .val (.string ⟨#[]⟩), .val (.int .i64 0), .val (.bool false)] := by kernel_rfl
@[simp] theorem ze54 : zeroElem @Tryz.prog 54 = some (.agg [.val (.string ⟨#[]⟩), .val (.string ⟨#[]⟩), .val (.string ⟨#[]⟩), .val (.int .i64 0), .val (.bool false)]) := by kernel_rfl
@[simp] theorem bld54 : isBld @Tryz.prog 54 = false := by kernel_rfl
@[simp] theorem places54 : placesOf @Tryz.prog 54 = some [(0, 1), (1, 1), (2, 1), (3, 1), (4, 1)] := by kernel_rfl
@[simp] theorem sz56 : szOf @Tryz.prog 56 = 1 := by kernel_rfl
@[simp] theorem zd56 : zeroD @Tryz.prog 56 = some [.val .nilFunc] := by kernel_rfl
@[simp] theorem ze56 : zeroElem @Tryz.prog 56 = some (.val .nilFunc) := by kernel_rfl
@[simp] theorem bld56 : isBld @Tryz.prog 56 = false := by kernel_rfl
@[simp] theorem sz57 : szOf @Tryz.prog 57 = 1 := by kernel_rfl
@[simp] theorem zd57 : zeroD @Tryz.prog 57 = some [.val .nilFunc] := by kernel_rfl
@[simp] theorem ze57 : zeroElem @Tryz.prog 57 = some (.val .nilFunc) := by kernel_rfl
@[simp] theorem bld57 : isBld @Tryz.prog 57 = false := by kernel_rfl
@[simp] theorem sz58 : szOf @Tryz.prog 58 = 1 := by kernel_rfl
@[simp] theorem zd58 : zeroD @Tryz.prog 58 = some [.val .nilFunc] := by kernel_rfl
@[simp] theorem ze58 : zeroElem @Tryz.prog 58 = some (.val .nilFunc) := by kernel_rfl
@[simp] theorem bld58 : isBld @Tryz.prog 58 = false := by kernel_rfl
@[simp] theorem sz59 : szOf @Tryz.prog 59 = 1 := by kernel_rfl
@[simp] theorem zd59 : zeroD @Tryz.prog 59 = some [.val .nilFunc] := by kernel_rfl
@[simp] theorem ze59 : zeroElem @Tryz.prog 59 = some (.val .nilFunc) := by kernel_rfl
@[simp] theorem bld59 : isBld @Tryz.prog 59 = false := by kernel_rfl
@[simp] theorem sz60 : szOf @Tryz.prog 60 = 1 := by kernel_rfl
@[simp] theorem zd60 : zeroD @Tryz.prog 60 = some [.val .nilFunc] := by kernel_rfl
@[simp] theorem ze60 : zeroElem @Tryz.prog 60 = some (.val .nilFunc) := by kernel_rfl
@[simp] theorem bld60 : isBld @Tryz.prog 60 = false := by kernel_rfl
@[simp] theorem sz61 : szOf @Tryz.prog 61 = 1 := by kernel_rfl
@[simp] theorem zd61 : zeroD @Tryz.prog 61 = some [.val .nilFunc] := by kernel_rfl
@[simp] theorem ze61 : zeroElem @Tryz.prog 61 = some (.val .nilFunc) := by kernel_rfl
@[simp] theorem bld61 : isBld @Tryz.prog 61 = false := by kernel_rfl
@[simp] theorem sz62 : szOf @Tryz.prog 62 = 1 := by kernel_rfl
@[simp] theorem zd62 : zeroD @Tryz.prog 62 = some [.slice 1 0 []] := by kernel_rfl
@[simp] theorem ze62 : zeroElem @Tryz.prog 62 = some (.slice 1 0 []) := by kernel_rfl
@[simp] theorem bld62 : isBld @Tryz.prog 62 = false := by kernel_rfl
@[simp] theorem sz63 : szOf @Tryz.prog 63 = 1 := by kernel_rfl
@[simp] theorem zd63 : zeroD @Tryz.prog 63 = some [.val .nilFunc] := by kernel_rfl
@[simp] theorem ze63 : zeroElem @Tryz.prog 63 = some (.val .nilFunc) := by kernel_rfl
@[simp] theorem bld63 : isBld @Tryz.prog 63 = false := by kernel_rfl
@[simp] theorem sz64 : szOf @Tryz.prog 64 = 1 := by kernel_rfl
@[simp] theorem zd64 : zeroD @Tryz.prog 64 = some [.val .nilFunc] := by kernel_rfl
@[simp] theorem ze64 : zeroElem @Tryz.prog 64 = some (.val .nilFunc) := by kernel_rfl
@[simp] theorem bld64 : isBld @Tryz.prog 64 = false := by kernel_rfl
@[simp] theorem sz65 : szOf @Tryz.prog 65 = 1 := by kernel_rfl
@[simp] theorem zd65 : zeroD @Tryz.prog 65 = some [.val .nilFunc] := by kernel_rfl
@[simp] theorem ze65 : zeroElem @Tryz.prog 65 = some (.val .nilFunc) := by kernel_rfl
@[simp] theorem bld65 : isBld @Tryz.prog 65 = false := by kernel_rfl
@[simp] theorem sz66 : szOf @Tryz.prog 66 = 1 := by kernel_rfl
@[simp] theorem zd66 : zeroD @Tryz.prog 66 = some [.val .nilFunc] := by kernel_rfl
@[simp] theorem ze66 : zeroElem @Tryz.prog 66 = some (.val .nilFunc) := by kernel_rfl
@[simp] theorem bld66 : isBld @Tryz.prog 66 = false := by kernel_rfl
@[simp] theorem sz67 : szOf @Tryz.prog 67 = 1 := by kernel_rfl
@[simp] theorem sz69 : szOf @Tryz.prog 69 = 1 := by kernel_rfl
@[simp] theorem zd69 : zeroD @Tryz.prog 69 = some [.val .nilFunc] := by kernel_rfl
@[simp] theorem ze69 : zeroElem @Tryz.prog 69 = some (.val .nilFunc) := by kernel_rfl
@[simp] theorem bld69 : isBld @Tryz.prog 69 = false := by kernel_rfl
@[simp] theorem sz70 : szOf @Tryz.prog 70 = 1 := by kernel_rfl
@[simp] theorem zd70 : zeroD @Tryz.prog 70 = some [.val .nilFunc] := by kernel_rfl
@[simp] theorem ze70 : zeroElem @Tryz.prog 70 = some (.val .nilFunc) := by kernel_rfl
@[simp] theorem bld70 : isBld @Tryz.prog 70 = false := by kernel_rfl
@[simp] theorem sz71 : szOf @Tryz.prog 71 = 1 := by kernel_rfl
@[simp] theorem zd71 : zeroD @Tryz.prog 71 = some [.slice 1 0 []] := by kernel_rfl
@[simp] theorem ze71 : zeroElem @Tryz.prog 71 = some (.slice 1 0 []) := by kernel_rfl
@[simp] theorem bld71 : isBld @Tryz.prog 71 = false := by kernel_rfl
@[simp] theorem sz73 : szOf @Tryz.prog 73 = 1 := by kernel_rfl
@[simp] theorem zd73 : zeroD @Tryz.prog 73 = some [.val .nilFunc] := by kernel_rfl
@[simp] theorem ze73 : zeroElem @Tryz.prog 73 = some (.val .nilFunc) := by kernel_rfl
@[simp] theorem bld73 : isBld @Tryz.prog 73 = false := by kernel_rfl
@[simp] theorem sz74 : szOf @Tryz.prog 74 = 6 := by kernel_rfl
@[simp] theorem zd74 : zeroD @Tryz.prog 74 = some [.val (.string ⟨#[]⟩), .val (.string ⟨#[]⟩), .val (.string ⟨#[]⟩), .val (.int .i64 0), .slice 1 0 [], .slice 1 0 []] := by kernel_rfl
@[simp] theorem ze74 : zeroElem @Tryz.prog 74 = some (.agg [.val (.string ⟨#[]⟩), .val (.string ⟨#[]⟩), .val (.string ⟨#[]⟩), .val (.int .i64 0), .slice 1 0 [], .slice 1 0 []]) := by kernel_rfl
@[simp] theorem bld74 : isBld @Tryz.prog 74 = false := by kernel_rfl
@[simp] theorem places74 : placesOf @Tryz.prog 74 = some [(0, 1), (1, 1), (2, 1), (3, 1), (4, 1), (5, 1)] := by kernel_rfl
@[simp] theorem sz75 : szOf @Tryz.prog 75 = 6 := by kernel_rfl
@[simp] theorem zd75 : zeroD @Tryz.prog 75 = some [.val (.string ⟨#[]⟩), .val (.string ⟨#[]⟩), .val (.string ⟨#[]⟩), .val (.int .i64 0), .slice 1 0 [], .slice 1 0 []] := by kernel_rfl
@[simp] theorem ze75 : zeroElem @Tryz.prog 75 = some (.agg [.val (.string ⟨#[]⟩), .val (.string ⟨#[]⟩), .val (.string ⟨#[]⟩), .val (.int .i64 0), .slice 1 0 [], .slice 1 0 []]) := by kernel_rfl
@[simp] theorem bld75 : isBld @Tryz.prog 75 = false := by kernel_rfl
@[simp] theorem places75 : placesOf @Tryz.prog 75 = some [(0, 1), (1, 1), (2, 1), (3, 1), (4, 1), (5, 1)] := by kernel_rfl
@[simp] theorem sz77 : szOf @Tryz.prog 77 = 1 := by kernel_rfl
@[simp] theorem zd77 : zeroD @Tryz.prog 77 = some [.val .nilFunc] := by kernel_rfl
@[simp] theorem ze77 : zeroElem @Tryz.prog 77 = some (.val .nilFunc) := by kernel_rfl
@[simp] theorem bld77 : isBld @Tryz.prog 77 = false := by kernel_rfl
@[simp] theorem sz78 : szOf @Tryz.prog 78 = 1 := by kernel_rfl
@[simp] theorem zd78 : zeroD @Tryz.prog 78 = some [.slice 1 0 []] := by kernel_rfl
@[simp] theorem ze78 : zeroElem @Tryz.prog 78 = some (.slice 1 0 []) := by kernel_rfl
@[simp] theorem bld78 : isBld @Tryz.prog 78 = false := by kernel_rfl
@[simp] theorem sz79 : szOf @Tryz.prog 79 = 1 := by kernel_rfl
@[simp] theorem zd79 : zeroD @Tryz.prog 79 = some [.val .nilFunc] := by kernel_rfl
@[simp] theorem ze79 : zeroElem @Tryz.prog 79 = some (.val .nilFunc) := by kernel_rfl
@[simp] theorem bld79 : isBld @Tryz.prog 79 = false := by kernel_rfl
@[simp] theorem sz80 : szOf @Tryz.prog 80 = 1 := by kernel_rfl
@[simp] theorem zd80 : zeroD @Tryz.prog 80 = some [.val .nilFunc] := by kernel_rfl
@[simp] theorem ze80 : zeroElem @Tryz.prog 80 = some (.val .nilFunc) := by kernel_rfl
@[simp] theorem bld80 : isBld @Tryz.prog 80 = false := by kernel_rfl
@[simp] theorem sz81 : szOf @Tryz.prog 81 = 1 := by kernel_rfl
@[simp] theorem zd81 : zeroD @Tryz.prog 81 = some [.val .nilFunc] := by kernel_rfl
@[simp] theorem ze81 : zeroElem @Tryz.prog 81 = some (.val .nilFunc) := by kernel_rfl
@[simp] theorem bld81 : isBld @Tryz.prog 81 = false := by kernel_rfl
@[simp] theorem sz82 : szOf @Tryz.prog 82 = 1 := by kernel_rfl
@[simp] theorem zd82 : zeroD @Tryz.prog 82 = some [.val .nilFunc] := by kernel_rfl
@[simp] theorem ze82 : zeroElem @Tryz.prog 82 = some (.val .nilFunc) := by kernel_rfl
@[simp] theorem bld82 : isBld @Tryz.prog 82 = false := by kernel_rfl
@[simp] theorem sz83 : szOf @Tryz.prog 83 = 1 := by kernel_rfl
@[simp] theorem zd83 : zeroD @Tryz.prog 83 = some [.val .nilFunc] := by kernel_rfl
@[simp] theorem ze83 : zeroElem @Tryz.prog 83 = some (.val .nilFunc) := by kernel_rfl
@[simp] theorem bld83 : isBld @Tryz.prog 83 = false := by kernel_rfl
@[simp] theorem sz84 : szOf @Tryz.prog 84 = 1 := by kernel_rfl
@[simp] theorem zd84 : zeroD @Tryz.prog 84 = some [.slice 1 0 []] := by kernel_rfl
@[simp] theorem ze84 : zeroElem @Tryz.prog 84 = some (.slice 1 0 []) := by kernel_rfl
@[simp] theorem bld84 : isBld @Tryz.prog 84 = false := by kernel_rfl
@[simp] theorem sz85 : szOf @Tryz.prog 85 = 1 := by kernel_rfl
@[simp] theorem zd85 : zeroD @Tryz.prog 85 = some [.val .nilFunc] := by kernel_rfl
@[simp] theorem ze85 : zeroElem @Tryz.prog 85 = some (.val .nilFunc) := by kernel_rfl
@[simp] theorem bld85 : isBld @Tryz.prog 85 = false := by kernel_rfl
@[simp] theorem sz86 : szOf @Tryz.prog 86 = 2 := by kernel_rfl
@[simp] theorem zd86 : zeroD @Tryz.prog 86 = some [.val (.string ⟨#[]⟩), .val (.bool false)] := by kernel_rfl
@[simp] theorem ze86 : zeroElem @Tryz.prog 86 = some (.agg [.val (.string ⟨#[]⟩), .val (.bool false)]) := by kernel_rfl
@[simp] theorem bld86 : isBld @Tryz.prog 86 = false := by kernel_rfl
@[simp] theorem places86 : placesOf @Tryz.prog 86 = some [(0, 1), (1, 1)] := by kernel_rfl
@[simp] theorem sz87 : szOf @Tryz.prog 87 = 2 := by kernel_rfl
@[simp] theorem zd87 : zeroD @Tryz.prog 87 = some [.val (.string ⟨#[]⟩), .val (.bool false)] := by kernel_rfl
@[simp] theorem ze87 : zeroElem @Tryz.prog 87 = some (.agg [.val (.string ⟨#[]⟩), .val (.bool false)]) := by kernel_rfl
@[simp] theorem bld87 : isBld @Tryz.prog 87 = false := by kernel_rfl
@[simp] theorem places87 : placesOf @Tryz.prog 87 = some [(0, 1), (1, 1)] := by kernel_rfl
@[simp] theorem sz88 : szOf @Tryz.prog 88 = 1 := by kernel_rfl
@[simp] theorem zd88 : zeroD @Tryz.prog 88 = some [.val .nilFunc] := by kernel_rfl
@[simp] theorem ze88 : zeroElem @Tryz.prog 88 = some (.val .nilFunc) := by kernel_rfl
@[simp] theorem bld88 : isBld @Tryz.prog 88 = false := by kernel_rfl
@[simp] theorem sz89 : szOf @Tryz.prog 89 = 1 := by kernel_rfl
@[simp] theorem zd89 : zeroD @Tryz.prog 89 = some [.val .nilFunc] := by kernel_rfl
@[simp] theorem ze89 : zeroElem @Tryz.prog 89 = some (.val .nilFunc) := by kernel_rfl
@[simp] theorem bld89 : isBld @Tryz.prog 89 = false := by kernel_rfl
@[simp] theorem sz90 : szOf @Tryz.prog 90 = 1 := by kernel_rfl
@[simp] theorem zd90 : zeroD @Tryz.prog 90 = some [.val .nilFunc] := by kernel_rfl
@[simp] theorem ze90 : zeroElem @Tryz.prog 90 = some (.val .nilFunc) := by kernel_rfl
@[simp] theorem bld90 : isBld @Tryz.prog 90 = false := by kernel_rfl
@[simp] theorem sz91 : szOf @Tryz.prog 91 = 1 := by kernel_rfl
@[simp] theorem zd91 : zeroD @Tryz.prog 91 = some [.val .nilFunc] := by kernel_rfl
@[simp] theorem ze91 : zeroElem @Tryz.prog 91 = some (.val .nilFunc) := by kernel_rfl
@[simp] theorem bld91 : isBld @Tryz.prog 91 = false := by kernel_rfl
@[simp] theorem sz92 : szOf @Tryz.prog 92 = 1 := by kernel_rfl
@[simp] theorem zd92 : zeroD @Tryz.prog 92 = some [.val (.int .u64 0)] := by kernel_rfl
@[simp] theorem ze92 : zeroElem @Tryz.prog 92 = some (.val (.int .u64 0)) := by kernel_rfl
@[simp] theorem bld92 : isBld @Tryz.prog 92 = false := by kernel_rfl
@[simp] theorem sz93 : szOf @Tryz.prog 93 = 1 := by kernel_rfl
@[simp] theorem zd93 : zeroD @Tryz.prog 93 = some [.val .nilFunc] := by kernel_rfl
@[simp] theorem ze93 : zeroElem @Tryz.prog 93 = some (.val .nilFunc) := by kernel_rfl
@[simp] theorem bld93 : isBld @Tryz.prog 93 = false := by kernel_rfl
@[simp] theorem sz95 : szOf @Tryz.prog 95 = 1 := by kernel_rfl
@[simp] theorem zd95 : zeroD @Tryz.prog 95 = some [.val .nilFunc] := by kernel_rfl
@[simp] theorem ze95 : zeroElem @Tryz.prog 95 = some (.val .nilFunc) := by kernel_rfl
@[simp] theorem bld95 : isBld @Tryz.prog 95 = false := by kernel_rfl
@[simp] theorem sz96 : szOf @Tryz.prog 96 = 1 := by kernel_rfl
@[simp] theorem zd96 : zeroD @Tryz.prog 96 = some [.val .nilFunc] := by kernel_rfl
@[simp] theorem ze96 : zeroElem @Tryz.prog 96 = some (.val .nilFunc) := by kernel_rfl
@[simp] theorem bld96 : isBld @Tryz.prog 96 = false := by kernel_rfl
@[simp] theorem sz97 : szOf @Tryz.prog 97 = 1 := by kernel_rfl
@[simp] theorem zd97 : zeroD @Tryz.prog 97 = some [.val (.int .u64 0)] := by kernel_rfl
@[simp] theorem ze97 : zeroElem @Tryz.prog 97 = some (.val (.int .u64 0)) := by kernel_rfl
@[simp] theorem bld97 : isBld @Tryz.prog 97 = false := by kernel_rfl
@[simp] theorem sz98 : szOf @Tryz.prog 98 = 1 := by kernel_rfl
@[simp] theorem zd98 : zeroD @Tryz.prog 98 = some [.val .nilFunc] := by kernel_rfl
@[simp] theorem ze98 : zeroElem @Tryz.prog 98 = some (.val .nilFunc) := by kernel_rfl
@[simp] theorem bld98 : isBld @Tryz.prog 98 = false := by kernel_rfl
@[simp] theorem sz99 : szOf @Tryz.prog 99 = 1 := by kernel_rfl
@[simp] theorem zd99 : zeroD @Tryz.prog 99 = some [.val .nilFunc] := by kernel_rfl
@[simp] theorem ze99 : zeroElem @Tryz.prog 99 = some (.val .nilFunc) := by kernel_rfl
@[simp] theorem bld99 : isBld @Tryz.prog 99 = false := by kernel_rfl
@[simp] theorem sz100 : szOf @Tryz.prog 100 = 1 := by kernel_rfl
@[simp] theorem zd100 : zeroD @Tryz.prog 100 = some [.val .nilFunc] := by kernel_rfl
@[simp] theorem ze100 : zeroElem @Tryz.prog 100 = some (.val .nilFunc) := by kernel_rfl
@[simp] theorem bld100 : isBld @Tryz.prog 100 = false := by kernel_rfl
@[simp] theorem sz101 : szOf @Tryz.prog 101 = 1 := by kernel_rfl
@[simp] theorem zd101 : zeroD @Tryz.prog 101 = some [.val .nilFunc] := by kernel_rfl
@[simp] theorem ze101 : zeroElem @Tryz.prog 101 = some (.val .nilFunc) := by kernel_rfl
@[simp] theorem bld101 : isBld @Tryz.prog 101 = false := by kernel_rfl
@[simp] theorem sz103 : szOf @Tryz.prog 103 = 1 := by kernel_rfl
@[simp] theorem zd103 : zeroD @Tryz.prog 103 = some [.val .nilFunc] := by kernel_rfl
@[simp] theorem ze103 : zeroElem @Tryz.prog 103 = some (.val .nilFunc) := by kernel_rfl
@[simp] theorem bld103 : isBld @Tryz.prog 103 = false := by kernel_rfl
@[simp] theorem sz104 : szOf @Tryz.prog 104 = 1 := by kernel_rfl
@[simp] theorem zd104 : zeroD @Tryz.prog 104 = some [.slice 1 0 []] := by kernel_rfl
@[simp] theorem ze104 : zeroElem @Tryz.prog 104 = some (.slice 1 0 []) := by kernel_rfl
@[simp] theorem bld104 : isBld @Tryz.prog 104 = false := by kernel_rfl
@[simp] theorem sz105 : szOf @Tryz.prog 105 = 1 := by kernel_rfl
@[simp] theorem zd105 : zeroD @Tryz.prog 105 = some [.val .nilFunc] := by kernel_rfl
@[simp] theorem ze105 : zeroElem @Tryz.prog 105 = some (.val .nilFunc) := by kernel_rfl
@[simp] theorem bld105 : isBld @Tryz.prog 105 = false := by kernel_rfl
@[simp] theorem sz106 : szOf @Tryz.prog 106 = 1 := by kernel_rfl
@[simp] theorem zd106 : zeroD @Tryz.prog 106 = some [.val (.pointer none)] := by kernel_rfl
@[simp] theorem ze106 : zeroElem @Tryz.prog 106 = some (.val (.pointer none)) := by kernel_rfl
@[simp] theorem bld106 : isBld @Tryz.prog 106 = false := by kernel_rfl
@[simp] theorem sz107 : szOf @Tryz.prog 107 = 2 := by kernel_rfl
@[simp] theorem zd107 : zeroD @Tryz.prog 107 = some [.val (.pointer none), .slice 1 0 []] := by kernel_rfl
@[simp] theorem ze107 : zeroElem @Tryz.prog 107 = some (.agg [.val (.pointer none), .slice 1 0 []]) := by kernel_rfl
@[simp] theorem bld107 : isBld @Tryz.prog 107 = false := by kernel_rfl
@[simp] theorem places107 : placesOf @Tryz.prog 107 = some [(0, 1), (1, 1)] := by kernel_rfl
@[simp] theorem sz108 : szOf @Tryz.prog 108 = 2 := by kernel_rfl
@[simp] theorem zd108 : zeroD @Tryz.prog 108 = some [.val (.pointer none), .slice 1 0 []] := by kernel_rfl
@[simp] theorem ze108 : zeroElem @Tryz.prog 108 = some (.agg [.val (.pointer none), .slice 1 0 []]) := by kernel_rfl
@[simp] theorem bld108 : isBld @Tryz.prog 108 = true := by kernel_rfl
@[simp] theorem places108 : placesOf @Tryz.prog 108 = some [(0, 1), (1, 1)] := by kernel_rfl
@[simp] theorem sz109 : szOf @Tryz.prog 109 = 1 := by kernel_rfl
@[simp] theorem zd109 : zeroD @Tryz.prog 109 = some [.val .nilFunc] := by kernel_rfl
@[simp] theorem ze109 : zeroElem @Tryz.prog 109 = some (.val .nilFunc) := by kernel_rfl
@[simp] theorem bld109 : isBld @Tryz.prog 109 = false := by kernel_rfl
@[simp] theorem sz110 : szOf @Tryz.prog 110 = 1 := by kernel_rfl
@[simp] theorem zd110 : zeroD @Tryz.prog 110 = some [.val .nilIface] := by kernel_rfl
@[simp] theorem ze110 : zeroElem @Tryz.prog 110 = some (.val .nilIface) := by kernel_rfl
@[simp] theorem bld110 : isBld @Tryz.prog 110 = false := by kernel_rfl
@[simp] theorem sz111 : szOf @Tryz.prog 111 = 1 := by kernel_rfl
@[simp] theorem zd111 : zeroD @Tryz.prog 111 = some [.val .nilIface] := by kernel_rfl
@[simp] theorem ze111 : zeroElem @Tryz.prog 111 = some (.val .nilIface) := by kernel_rfl
@[simp] theorem bld111 : isBld @Tryz.prog 111 = false := by kernel_rfl
@[simp] theorem sz113 : szOf @Tryz.prog 113 = 1 := by kernel_rfl
@[simp] theorem zd113 : zeroD @Tryz.prog 113 = some [.val .nilFunc] := by kernel_rfl
@[simp] theorem ze113 : zeroElem @Tryz.prog 113 = some (.val .nilFunc) := by kernel_rfl
@[simp] theorem bld113 : isBld @Tryz.prog 113 = false := by kernel_rfl
@[simp] theorem sz114 : szOf @Tryz.prog 114 = 1 := by kernel_rfl
@[simp] theorem zd114 : zeroD @Tryz.prog 114 = some [.val .nilFunc] := by kernel_rfl
@[simp] theorem ze114 : zeroElem @Tryz.prog 114 = some (.val .nilFunc) := by kernel_rfl
@[simp] theorem bld114 : isBld @Tryz.prog 114 = false := by kernel_rfl
@[simp] theorem sz115 : szOf @Tryz.prog 115 = 1 := by kernel_rfl
@[simp] theorem zd115 : zeroD @Tryz.prog 115 = some [.val .nilFunc] := by kernel_rfl
@[simp] theorem ze115 : zeroElem @Tryz.prog 115 = some (.val .nilFunc) := by kernel_rfl
@[simp] theorem bld115 : isBld @Tryz.prog 115 = false := by kernel_rfl
@[simp] theorem sz116 : szOf @Tryz.prog 116 = 1 := by kernel_rfl
@[simp] theorem zd116 : zeroD @Tryz.prog 116 = some [.val .nilFunc] := by kernel_rfl
@[simp] theorem ze116 : zeroElem @Tryz.prog 116 = some (.val .nilFunc) := by kernel_rfl
@[simp] theorem bld116 : isBld @Tryz.prog 116 = false := by kernel_rfl
@[simp] theorem sz117 : szOf @Tryz.prog 117 = 100 := by kernel_rfl
@[simp] theorem sz118 : szOf @Tryz.prog 118 = 1 := by kernel_rfl
@[simp] theorem zd118 : zeroD @Tryz.prog 118 = some [.val .nilIface] := by kernel_rfl
@[simp] theorem ze118 : zeroElem @Tryz.prog 118 = some (.val .nilIface) := by kernel_rfl
@[simp] theorem bld118 : isBld @Tryz.prog 118 = false := by kernel_rfl
@[simp] theorem sz119 : szOf @Tryz.prog 119 = 1 := by kernel_rfl
@[simp] theorem zd119 : zeroD @Tryz.prog 119 = some [.val .nilIface] := by kernel_rfl
@[simp] theorem ze119 : zeroElem @Tryz.prog 119 = some (.val .nilIface) := by kernel_rfl
@[simp] theorem bld119 : isBld @Tryz.prog 119 = false := by kernel_rfl
@[simp] theorem sz121 : szOf @Tryz.prog 121 = 1 := by kernel_rfl
@[simp] theorem zd121 : zeroD @Tryz.prog 121 = some [.val .nilFunc] := by kernel_rfl
@[simp] theorem ze121 : zeroElem @Tryz.prog 121 = some (.val .nilFunc) := by kernel_rfl
@[simp] theorem bld121 : isBld @Tryz.prog 121 = false := by kernel_rfl
@[simp] theorem sz122 : szOf @Tryz.prog 122 = 1 := by kernel_rfl
@[simp] theorem zd122 : zeroD @Tryz.prog 122 = some [.val .nilFunc] := by kernel_rfl
@[simp] theorem ze122 : zeroElem @Tryz.prog 122 = some (.val .nilFunc) := by kernel_rfl
@[simp] theorem bld122 : isBld @Tryz.prog 122 = false := by kernel_rfl
@[simp] theorem sz123 : szOf @Tryz.prog 123 = 1 := by kernel_rfl
@[simp] theorem zd123 : zeroD @Tryz.prog 123 = some [.val (.int .i64 0)] := by kernel_rfl
@[simp] theorem ze123 : zeroElem @Tryz.prog 123 = some (.val (.int .i64 0)) := by kernel_rfl
@[simp] theorem bld123 : isBld @Tryz.prog 123 = false := by kernel_rfl
@[simp] theorem sz125 : szOf @Tryz.prog 125 = 1 := by kernel_rfl
@[simp] theorem zd125 : zeroD @Tryz.prog 125 = some [.val .nilFunc] := by kernel_rfl
@[simp] theorem ze125 : zeroElem @Tryz.prog 125 = some (.val .nilFunc) := by kernel_rfl
@[simp] theorem bld125 : isBld @Tryz.prog 125 = false := by kernel_rfl
@[simp] theorem sz126 : szOf @Tryz.prog 126 = 1 := by kernel_rfl
@[simp] theorem zd126 : zeroD @Tryz.prog 126 = some [.val .nilFunc] := by kernel_rfl
@[simp] theorem ze126 : zeroElem @Tryz.prog 126 = some (.val .nilFunc) := by kernel_rfl
@[simp] theorem bld126 : isBld @Tryz.prog 126 = false := by kernel_rfl
@[simp] theorem sz127 : szOf @Tryz.prog 127 = 1 := by kernel_rfl
@[simp] theorem zd127 : zeroD @Tryz.prog 127 = some [.val .nilFunc] := by kernel_rfl
@[simp] theorem ze127 : zeroElem @Tryz.prog 127 = some (.val .nilFunc) := by kernel_rfl
@[simp] theorem bld127 : isBld @Tryz.prog 127 = false := by kernel_rfl
@[simp] theorem sz128 : szOf @Tryz.prog 128 = 1 := by kernel_rfl
@[simp] theorem zd128 : zeroD @Tryz.prog 128 = some [.val .nilFunc] := by kernel_rfl
@[simp] theorem ze128 : zeroElem @Tryz.prog 128 = some (.val .nilFunc) := by kernel_rfl
@[simp] theorem bld128 : isBld @Tryz.prog 128 = false := by kernel_rfl
@[simp] theorem sz129 : szOf @Tryz.prog 129 = 1 := by kernel_rfl
@[simp] theorem zd129 : zeroD @Tryz.prog 129 = some [.val .nilFunc] := by kernel_rfl
@[simp] theorem ze129 : zeroElem @Tryz.prog 129 = some (.val .nilFunc) := by kernel_rfl
@[simp] theorem bld129 : isBld @Tryz.prog 129 = false := by kernel_rfl
@[simp] theorem sz130 : szOf @Tryz.prog 130 = 1 := by kernel_rfl
@[simp] theorem zd130 : zeroD @Tryz.prog 130 = some [.val (.int .u32 0)] := by kernel_rfl
@[simp] theorem ze130 : zeroElem @Tryz.prog 130 = some (.val (.int .u32 0)) := by kernel_rfl
@[simp] theorem bld130 : isBld @Tryz.prog 130 = false := by kernel_rfl
@[simp] theorem sz131 : szOf @Tryz.prog 131 = 1 := by kernel_rfl
@[simp] theorem zd131 : zeroD @Tryz.prog 131 = some [.val .nilFunc] := by kernel_rfl
@[simp] theorem ze131 : zeroElem @Tryz.prog 131 = some (.val .nilFunc) := by kernel_rfl
@[simp] theorem bld131 : isBld @Tryz.prog 131 = false := by kernel_rfl
@[simp] theorem sz132 : szOf @Tryz.prog 132 = 1 := by kernel_rfl
@[simp] theorem zd132 : zeroD @Tryz.prog 132 = some [.val .nilFunc] := by kernel_rfl
@[simp] theorem ze132 : zeroElem @Tryz.prog 132 = some (.val .nilFunc) := by kernel_rfl
@[simp] theorem bld132 : isBld @Tryz.prog 132 = false := by kernel_rfl
@[simp] theorem sz133 : szOf @Tryz.prog 133 = 1 := by kernel_rfl
@[simp] theorem zd133 : zeroD @Tryz.prog 133 = some [.val .nilFunc] := by kernel_rfl
@[simp] theorem ze133 : zeroElem @Tryz.prog 133 = some (.val .nilFunc) := by kernel_rfl
@[simp] theorem bld133 : isBld @Tryz.prog 133 = false := by kernel_rfl
@[simp] theorem sz134 : szOf @Tryz.prog 134 = 1 := by kernel_rfl
@[simp] theorem zd134 : zeroD @Tryz.prog 134 = some [.val (.pointer none)] := by kernel_rfl
@[simp] theorem ze134 : zeroElem @Tryz.prog 134 = some (.val (.pointer none)) := by kernel_rfl
@[simp] theorem bld134 : isBld @Tryz.prog 134 = false := by kernel_rfl
@[simp] theorem sz135 : szOf @Tryz.prog 135 = 0 := by kernel_rfl
@[simp] theorem zd135 : zeroD @Tryz.prog 135 = some [] := by kernel_rfl
@[simp] theorem places135 : placesOf @Tryz.prog 135 = some [] := by kernel_rfl
@[simp] theorem sz136 : szOf @Tryz.prog 136 = 0 := by kernel_rfl
@[simp] theorem zd136 : zeroD @Tryz.prog 136 = some [] := by kernel_rfl
@[simp] theorem places136 : placesOf @Tryz.prog 136 = some [] := by kernel_rfl
@[simp] theorem sz137 : szOf @Tryz.prog 137 = 0 := by kernel_rfl
@[simp] theorem zd137 : zeroD @Tryz.prog 137 = some [] := by kernel_rfl
@[simp] theorem places137 : placesOf @Tryz.prog 137 = some [(0, 0)] := by kernel_rfl
@[simp] theorem sz138 : szOf @Tryz.prog 138 = 0 := by kernel_rfl
@[simp] theorem zd138 : zeroD @Tryz.prog 138 = some [] := by kernel_rfl
@[simp] theorem places138 : placesOf @Tryz.prog 138 = some [(0, 0)] := by kernel_rfl
@[simp] theorem sz139 : szOf @Tryz.prog 139 = 0 := by kernel_rfl
@[simp] theorem zd139 : zeroD @Tryz.prog 139 = some [] := by kernel_rfl
@[simp] theorem places139 : placesOf @Tryz.prog 139 = some [(0, 0)] := by kernel_rfl
@[simp] theorem sz140 : szOf @Tryz.prog 140 = 0 := by kernel_rfl
@[simp] theorem zd140 : zeroD @Tryz.prog 140 = some [] := by kernel_rfl
@[simp] theorem places140 : placesOf @Tryz.prog 140 = some [(0, 0)] := by kernel_rfl
@[simp] theorem sz141 : szOf @Tryz.prog 141 = 0 := by kernel_rfl
@[simp] theorem zd141 : zeroD @Tryz.prog 141 = some [] := by kernel_rfl
@[simp] theorem places141 : placesOf @Tryz.prog 141 = some [(0, 0)] := by kernel_rfl
@[simp] theorem sz142 : szOf @Tryz.prog 142 = 0 := by kernel_rfl
@[simp] theorem zd142 : zeroD @Tryz.prog 142 = some [] := by kernel_rfl
@[simp] theorem places142 : placesOf @Tryz.prog 142 = some [(0, 0)] := by kernel_rfl
@[simp] theorem sz143 : szOf @Tryz.prog 143 = 0 := by kernel_rfl
@[simp] theorem zd143 : zeroD @Tryz.prog 143 = some [] := by kernel_rfl
@[simp] theorem places143 : placesOf @Tryz.prog 143 = some [(0, 0)] := by kernel_rfl
@[simp] theorem sz144 : szOf @Tryz.prog 144 = 0 := by kernel_rfl
@[simp] theorem zd144 : zeroD @Tryz.prog 144 = some [] := by kernel_rfl
@[simp] theorem places144 : placesOf @Tryz.prog 144 = some [(0, 0)] := by kernel_rfl
@[simp] theorem sz145 : szOf @Tryz.prog 145 = 0 := by kernel_rfl
@[simp] theorem zd145 : zeroD @Tryz.prog 145 = some [] := by kernel_rfl
@[simp] theorem places145 : placesOf @Tryz.prog 145 = some [(0, 0)] := by kernel_rfl
@[simp] theorem sz146 : szOf @Tryz.prog 146 = 0 := by kernel_rfl
@[simp] theorem zd146 : zeroD @Tryz.prog 146 = some [] := by kernel_rfl
@[simp] theorem places146 : placesOf @Tryz.prog 146 = some [(0, 0)] := by kernel_rfl
@[simp] theorem sz147 : szOf @Tryz.prog 147 = 1 := by kernel_rfl
@[simp] theorem zd147 : zeroD @Tryz.prog 147 = some [.val (.int .u64 0)] := by kernel_rfl
@[simp] theorem ze147 : zeroElem @Tryz.prog 147 = some (.val (.int .u64 0)) := by kernel_rfl
@[simp] theorem bld147 : isBld @Tryz.prog 147 = false := by kernel_rfl
@[simp] theorem sz148 : szOf @Tryz.prog 148 = 1 := by kernel_rfl
@[simp] theorem zd148 : zeroD @Tryz.prog 148 = some [.val .nilFunc] := by kernel_rfl
@[simp] theorem ze148 : zeroElem @Tryz.prog 148 = some (.val .nilFunc) := by kernel_rfl
@[simp] theorem bld148 : isBld @Tryz.prog 148 = false := by kernel_rfl
@[simp] theorem sz149 : szOf @Tryz.prog 149 = 1 := by kernel_rfl
@[simp] theorem zd149 : zeroD @Tryz.prog 149 = some [.val .nilFunc] := by kernel_rfl
@[simp] theorem ze149 : zeroElem @Tryz.prog 149 = some (.val .nilFunc) := by kernel_rfl
@[simp] theorem bld149 : isBld @Tryz.prog 149 = false := by kernel_rfl
@[simp] theorem sz150 : szOf @Tryz.prog 150 = 1 := by kernel_rfl
@[simp] theorem zd150 : zeroD @Tryz.prog 150 = some [.val .nilFunc] := by kernel_rfl
@[simp] theorem ze150 : zeroElem @Tryz.prog 150 = some (.val .nilFunc) := by kernel_rfl
@[simp] theorem bld150 : isBld @Tryz.prog 150 = false := by kernel_rfl
@[simp] theorem sz151 : szOf @Tryz.prog 151 = 1 := by kernel_rfl
@[simp] theorem zd151 : zeroD @Tryz.prog 151 = some [.val (.pointer none)] := by kernel_rfl
@[simp] theorem ze151 : zeroElem @Tryz.prog 151 = some (.val (.pointer none)) := by kernel_rfl
@[simp] theorem bld151 : isBld @Tryz.prog 151 = false := by kernel_rfl
@[simp] theorem sz152 : szOf @Tryz.prog 152 = 1 := by kernel_rfl
@[simp] theorem zd152 : zeroD @Tryz.prog 152 = some [.val .nilFunc] := by kernel_rfl
@[simp] theorem ze152 : zeroElem @Tryz.prog 152 = some (.val .nilFunc) := by kernel_rfl
@[simp] theorem bld152 : isBld @Tryz.prog 152 = false := by kernel_rfl
@[simp] theorem sz153 : szOf @Tryz.prog 153 = 1 := by kernel_rfl
@[simp] theorem zd153 : zeroD @Tryz.prog 153 = some [.val (.pointer none)] := by kernel_rfl
@[simp] theorem ze153 : zeroElem @Tryz.prog 153 = some (.val (.pointer none)) := by kernel_rfl
@[simp] theorem bld153 : isBld @Tryz.prog 153 = false := by kernel_rfl
@[simp] theorem sz154 : szOf @Tryz.prog 154 = 1 := by kernel_rfl
@[simp] theorem zd154 : zeroD @Tryz.prog 154 = some [.val .nilFunc] := by kernel_rfl
@[simp] theorem ze154 : zeroElem @Tryz.prog 154 = some (.val .nilFunc) := by kernel_rfl
@[simp] theorem bld154 : isBld @Tryz.prog 154 = false := by kernel_rfl
@[simp] theorem sz155 : szOf @Tryz.prog 155 = 1 := by kernel_rfl
@[simp] theorem zd155 : zeroD @Tryz.prog 155 = some [.val .nilFunc] := by kernel_rfl
@[simp] theorem ze155 : zeroElem @Tryz.prog 155 = some (.val .nilFunc) := by kernel_rfl
@[simp] theorem bld155 : isBld @Tryz.prog 155 = false := by kernel_rfl
@[simp] theorem sz157 : szOf @Tryz.prog 157 = 1 := by kernel_rfl
@[simp] theorem zd157 : zeroD @Tryz.prog 157 = some [.val .nilFunc] := by kernel_rfl
@[simp] theorem ze157 : zeroElem @Tryz.prog 157 = some (.val .nilFunc) := by kernel_rfl
@[simp] theorem bld157 : isBld @Tryz.prog 157 = false := by kernel_rfl
@[simp] theorem sz158 : szOf @Tryz.prog 158 = 1 := by kernel_rfl
@[simp] theorem zd158 : zeroD @Tryz.prog 158 = some [.val (.pointer none)] := by kernel_rfl
@[simp] theorem ze158 : zeroElem @Tryz.prog 158 = some (.val (.pointer none)) := by kernel_rfl
@[simp] theorem bld158 : isBld @Tryz.prog 158 = false := by kernel_rfl
@[simp] theorem sz160 : szOf @Tryz.prog 160 = 1 := by kernel_rfl
@[simp] theorem zd160 : zeroD @Tryz.prog 160 = some [.val .nilFunc] := by kernel_rfl
@[simp] theorem ze160 : zeroElem @Tryz.prog 160 = some (.val .nilFunc) := by kernel_rfl
@[simp] theorem bld160 : isBld @Tryz.prog 160 = false := by kernel_rfl
@[simp] theorem sz161 : szOf @Tryz.prog 161 = 4 := by kernel_rfl
@[simp] theorem zd161 : zeroD @Tryz.prog 161 = some [.val (.pointer none), .val (.pointer none), .val (.pointer none), .val (.string ⟨#[]⟩)] := by kernel_rfl
@[simp] theorem ze161 : zeroElem @Tryz.prog 161 = some (.agg [.val (.pointer none), .val (.pointer none), .val (.pointer none), .val (.string ⟨#[]⟩)]) := by kernel_rfl
@[simp] theorem bld161 : isBld @Tryz.prog 161 = false := by kernel_rfl
@[simp] theorem places161 : placesOf @Tryz.prog 161 = some [(0, 1), (1, 1), (2, 1), (3, 1)] := by kernel_rfl
@[simp] theorem sz162 : szOf @Tryz.prog 162 = 4 := by kernel_rfl
@[simp] theorem zd162 : zeroD @Tryz.prog 162 = some [.val (.pointer none), .val (.pointer none), .val (.pointer none), .val (.string ⟨#[]⟩)] := by kernel_rfl
@[simp] theorem ze162 : zeroElem @Tryz.prog 162 = some (.agg [.val (.pointer none), .val (.pointer none), .val (.pointer none), .val (.string ⟨#[]⟩)]) := by kernel_rfl
@[simp] theorem bld162 : isBld @Tryz.prog 162 = false := by kernel_rfl
@[simp] theorem places162 : placesOf @Tryz.prog 162 = some [(0, 1), (1, 1), (2, 1), (3, 1)] := by kernel_rfl
@[simp] theorem sz163 : szOf @Tryz.prog 163 = 0 := by kernel_rfl
@[simp] theorem zd163 : zeroD @Tryz.prog 163 = some [] := by kernel_rfl
@[simp] theorem sz164 : szOf @Tryz.prog 164 = 0 := by kernel_rfl
@[simp] theorem zd164 : zeroD @Tryz.prog 164 = some [] := by kernel_rfl
@[simp] theorem places164 : placesOf @Tryz.prog 164 = some [(0, 0)] := by kernel_rfl
@[simp] theorem sz165 : szOf @Tryz.prog 165 = 0 := by kernel_rfl
@[simp] theorem zd165 : zeroD @Tryz.prog 165 = some [] := by kernel_rfl
@[simp] theorem places165 : placesOf @Tryz.prog 165 = some [(0, 0)] := by kernel_rfl
@[simp] theorem sz166 : szOf @Tryz.prog 166 = 1 := by kernel_rfl
@[simp] theorem zd166 : zeroD @Tryz.prog 166 = some [.val .nilFunc] := by kernel_rfl
@[simp] theorem ze166 : zeroElem @Tryz.prog 166 = some (.val .nilFunc) := by kernel_rfl
@[simp] theorem bld166 : isBld @Tryz.prog 166 = false := by kernel_rfl
@[simp] theorem sz167 : szOf @Tryz.prog 167 = 1 := by kernel_rfl
@[simp] theorem zd167 : zeroD @Tryz.prog 167 = some [.val (.int .u8 0)] := by kernel_rfl
@[simp] theorem ze167 : zeroElem @Tryz.prog 167 = some (.val (.int .u8 0)) := by kernel_rfl
@[simp] theorem bld167 : isBld @Tryz.prog 167 = false := by kernel_rfl
@[simp] theorem sz168 : szOf @Tryz.prog 168 = 1 := by kernel_rfl
@[simp] theorem zd168 : zeroD @Tryz.prog 168 = some [.val (.int .u8 0)] := by kernel_rfl
@[simp] theorem ze168 : zeroElem @Tryz.prog 168 = some (.val (.int .u8 0)) := by kernel_rfl
@[simp] theorem bld168 : isBld @Tryz.prog 168 = false := by kernel_rfl
@[simp] theorem sz169 : szOf @Tryz.prog 169 = 1 := by kernel_rfl
@[simp] theorem zd169 : zeroD @Tryz.prog 169 = some [.val .nilFunc] := by kernel_rfl
@[simp] theorem ze169 : zeroElem @Tryz.prog 169 = some (.val .nilFunc) := by kernel_rfl
@[simp] theorem bld169 : isBld @Tryz.prog 169 = false := by kernel_rfl
@[simp] theorem sz170 : szOf @Tryz.prog 170 = 1 := by kernel_rfl
@[simp] theorem zd170 : zeroD @Tryz.prog 170 = some [.val (.int .i32 0)] := by kernel_rfl
@[simp] theorem ze170 : zeroElem @Tryz.prog 170 = some (.val (.int .i32 0)) := by kernel_rfl
@[simp] theorem bld170 : isBld @Tryz.prog 170 = false := by kernel_rfl
@[simp] theorem sz171 : szOf @Tryz.prog 171 = 1 := by kernel_rfl
@[simp] theorem zd171 : zeroD @Tryz.prog 171 = some [.val (.int .i32 0)] := by kernel_rfl
@[simp] theorem ze171 : zeroElem @Tryz.prog 171 = some (.val (.int .i32 0)) := by kernel_rfl
@[simp] theorem bld171 : isBld @Tryz.prog 171 = false := by kernel_rfl
@[simp] theorem sz172 : szOf @Tryz.prog 172 = 11 := by kernel_rfl
@[simp] theorem zd172 : zeroD @Tryz.prog 172 = some [.val (.int .u64 0), .val (.int .u64 0), .val (.int .u32 0), .val (.int .u8 0), .val (.int .u8 0), .val (.int .u8 0), .val (.int .u8 0), .val .nilFunc, .val (.pointer none), .val (.int .i32 0), .val (.int .i32 0)] := by kernel_rfl
@[simp] theorem ze172 : zeroElem @Tryz.prog 172 = some (.agg [.val (.int .u64 0), .val (.int .u64 0), .val (.int .u32 0), .val (.int .u8 0), .val (.int .u8 0), .val (.int .u8 0), .val (.int .u8 0), .val .nilFunc, .val (.pointer none), .val (.int .i32 0), .val (.int .i32 0)]) := by kernel_rfl
@[simp] theorem bld172 : isBld @Tryz.prog 172 = false := by kernel_rfl
@[simp] theorem places172 : placesOf @Tryz.prog 172 = some [(0, 1), (1, 1), (2, 1), (3, 1), (4, 1), (5, 1), (6, 1), (7, 1), (8, 1), (9, 1), (10, 1)] := by kernel_rfl
@[simp] theorem sz173 : szOf @Tryz.prog 173 = 11 := by kernel_rfl
@[simp] theorem zd173 : zeroD @Tryz.prog 173 = some [.val (.int .u64 0), .val (.int .u64 0), .val (.int .u32 0), .val (.int .u8 0), .val (.int .u8 0), .val (.int .u8 0), .val (.int .u8 0), .val .nilFunc, .val (.pointer none), .val (.int .i32 0), .val (.int .i32 0)] := by kernel_rfl
@[simp] theorem ze173 : zeroElem @Tryz.prog 173 = some (.agg [.val (.int .u64 0), .val (.int .u64 0), .val (.int .u32 0), .val (.int .u8 0), .val (.int .u8 0), .val (.int .u8 0), .val (.int .u8 0), .val .nilFunc, .val (.pointer none), .val (.int .i32 0), .val (.int .i32 0)]) := by kernel_rfl
@[simp] theorem bld173 : isBld @Tryz.prog 173 = false := by kernel_rfl
@[simp] theorem places173 : placesOf @Tryz.prog 173 = some [(0, 1), (1, 1), (2, 1), (3, 1), (4, 1), (5, 1), (6, 1), (7, 1), (8, 1), (9, 1), (10, 1)] := by kernel_rfl
@[simp] theorem sz174 : szOf @Tryz.prog 174 = 1 := by kernel_rfl
@[simp] theorem zd174 : zeroD @Tryz.prog 174 = some [.val .nilFunc] := by kernel_rfl
@[simp] theorem ze174 : zeroElem @Tryz.prog 174 = some (.val .nilFunc) := by kernel_rfl
@[simp] theorem bld174 : isBld @Tryz.prog 174 = false := by kernel_rfl
@[simp] theorem sz175 : szOf @Tryz.prog 175 = 1 := by kernel_rfl
@[simp] theorem zd175 : zeroD @Tryz.prog 175 = some [.val .nilFunc] := by kernel_rfl
@[simp] theorem ze175 : zeroElem @Tryz.prog 175 = some (.val .nilFunc) := by kernel_rfl
@[simp] theorem bld175 : isBld @Tryz.prog 175 = false := by kernel_rfl
@[simp] theorem sz176 : szOf @Tryz.prog 176 = 1 := by kernel_rfl
@[simp] theorem zd176 : zeroD @Tryz.prog 176 = some [.val .nilFunc] := by kernel_rfl
@[simp] theorem ze176 : zeroElem @Tryz.prog 176 = some (.val .nilFunc) := by kernel_rfl
@[simp] theorem bld176 : isBld @Tryz.prog 176 = false := by kernel_rfl
@[simp] theorem sz177 : szOf @Tryz.prog 177 = 3 := by kernel_rfl
@[simp] theorem zd177 : zeroD @Tryz.prog 177 = some [.val (.bool false), .val (.int .i64 0), .val (.string ⟨#[]⟩)] := by kernel_rfl
@[simp] theorem ze177 : zeroElem @Tryz.prog 177 = some (.agg [.val (.bool false), .val (.int .i64 0), .val (.string ⟨#[]⟩)]) := by kernel_rfl
@[simp] theorem bld177 : isBld @Tryz.prog 177 = false := by kernel_rfl
@[simp] theorem places177 : placesOf @Tryz.prog 177 = some [(0, 1), (1, 1), (2, 1)] := by kernel_rfl
@[simp] theorem sz178 : szOf @Tryz.prog 178 = 3 := by kernel_rfl
@[simp] theorem zd178 : zeroD @Tryz.prog 178 = some [.val (.bool false), .val (.int .i64 0), .val (.string ⟨#[]⟩)] := by kernel_rfl
@[simp] theorem ze178 : zeroElem @Tryz.prog 178 = some (.agg [.val (.bool false), .val (.int .i64 0), .val (.string ⟨#[]⟩)]) := by kernel_rfl
@[simp] theorem bld178 : isBld @Tryz.prog 178 = false := by kernel_rfl
@[simp] theorem places178 : placesOf @Tryz.prog 178 = some [(0, 1), (1, 1), (2, 1)] := by kernel_rfl
@[simp] theorem sz180 : szOf @Tryz.prog 180 = 1 := by kernel_rfl
@[simp] theorem zd180 : zeroD @Tryz.prog 180 = some [.val .nilFunc] := by kernel_rfl
@[simp] theorem ze180 : zeroElem @Tryz.prog 180 = some (.val .nilFunc) := by kernel_rfl
@[simp] theorem bld180 : isBld @Tryz.prog 180 = false := by kernel_rfl
@[simp] theorem sz181 : szOf @Tryz.prog 181 = 1 := by kernel_rfl
@[simp] theorem zd181 : zeroD @Tryz.prog 181 = some [.val .nilFunc] := by kernel_rfl
@[simp] theorem ze181 : zeroElem @Tryz.prog 181 = some (.val .nilFunc) := by kernel_rfl
@[simp] theorem bld181 : isBld @Tryz.prog 181 = false := by kernel_rfl
@[simp] theorem sz182 : szOf @Tryz.prog 182 = 1 := by kernel_rfl
@[simp] theorem zd182 : zeroD @Tryz.prog 182 = some [.val .nilFunc] := by kernel_rfl
@[simp] theorem ze182 : zeroElem @Tryz.prog 182 = some (.val .nilFunc) := by kernel_rfl
@[simp] theorem bld182 : isBld @Tryz.prog 182 = false := by kernel_rfl
@[simp] theorem sz183 : szOf @Tryz.prog 183 = 1 := by kernel_rfl
@[simp] theorem zd183 : zeroD @Tryz.prog 183 = some [.val .nilFunc] := by kernel_rfl
@[simp] theorem ze183 : zeroElem @Tryz.prog 183 = some (.val .nilFunc) := by kernel_rfl
@[simp] theorem bld183 : isBld @Tryz.prog 183 = false := by kernel_rfl
@[simp] theorem sz184 : szOf @Tryz.prog 184 = 256 := by kernel_rfl
@[simp] theorem sz185 : szOf @Tryz.prog 185 = 256 := by kernel_rfl
@[simp] theorem sz187 : szOf @Tryz.prog 187 = 1 := by kernel_rfl
@[simp] theorem zd187 : zeroD @Tryz.prog 187 = some [.val .nilFunc] := by kernel_rfl
@[simp] theorem ze187 : zeroElem @Tryz.prog 187 = some (.val .nilFunc) := by kernel_rfl
@[simp] theorem bld187 : isBld @Tryz.prog 187 = false := by kernel_rfl
@[simp] theorem sz188 : szOf @Tryz.prog 188 = 1 := by kernel_rfl
@[simp] theorem zd188 : zeroD @Tryz.prog 188 = some [.val .nilFunc] := by kernel_rfl
@[simp] theorem ze188 : zeroElem @Tryz.prog 188 = some (.val .nilFunc) := by kernel_rfl
@[simp] theorem bld188 : isBld @Tryz.prog 188 = false := by kernel_rfl
@[simp] theorem sz189 : szOf @Tryz.prog 189 = 1 := by kernel_rfl
@[simp] theorem zd189 : zeroD @Tryz.prog 189 = some [.val (.pointer none)] := by kernel_rfl
@[simp] theorem ze189 : zeroElem @Tryz.prog 189 = some (.val (.pointer none)) := by kernel_rfl
@[simp] theorem bld189 : isBld @Tryz.prog 189 = false := by kernel_rfl
@[simp] theorem sz190 : szOf @Tryz.prog 190 = 1 := by kernel_rfl
@[simp] theorem zd190 : zeroD @Tryz.prog 190 = some [.val .nilFunc] := by kernel_rfl
@[simp] theorem ze190 : zeroElem @Tryz.prog 190 = some (.val .nilFunc) := by kernel_rfl
@[simp] theorem bld190 : isBld @Tryz.prog 190 = false := by kernel_rfl
@[simp] theorem sz191 : szOf @Tryz.prog 191 = 1 := by kernel_rfl
@[simp] theorem zd191 : zeroD @Tryz.prog 191 = some [.val .nilFunc] := by kernel_rfl
@[simp] theorem ze191 : zeroElem @Tryz.prog 191 = some (.val .nilFunc) := by kernel_rfl
@[simp] theorem bld191 : isBld @Tryz.prog 191 = false := by kernel_rfl
@[simp] theorem sz192 : szOf @Tryz.prog 192 = 1 := by kernel_rfl
@[simp] theorem zd192 : zeroD @Tryz.prog 192 = some [.val .nilFunc] := by kernel_rfl
@[simp] theorem ze192 : zeroElem @Tryz.prog 192 = some (.val .nilFunc) := by kernel_rfl
@[simp] theorem bld192 : isBld @Tryz.prog 192 = false := by kernel_rfl
@[simp] theorem sz193 : szOf @Tryz.prog 193 = 256 := by kernel_rfl
@[simp] theorem sz194 : szOf @Tryz.prog 194 = 2 := by kernel_rfl
@[simp] theorem zd194 : zeroD @Tryz.prog 194 = some [.val (.int .u8 0), .val (.int .u8 0)] := by kernel_rfl
@[simp] theorem ze194 : zeroElem @Tryz.prog 194 = some (.agg [.val (.int .u8 0), .val (.int .u8 0)]) := by kernel_rfl
@[simp] theorem bld194 : isBld @Tryz.prog 194 = false := by kernel_rfl
@[simp] theorem places194 : placesOf @Tryz.prog 194 = some [(0, 1), (1, 1)] := by kernel_rfl
@[simp] theorem sz195 : szOf @Tryz.prog 195 = 2 := by kernel_rfl
@[simp] theorem zd195 : zeroD @Tryz.prog 195 = some [.val (.int .u8 0), .val (.int .u8 0)] := by kernel_rfl
@[simp] theorem ze195 : zeroElem @Tryz.prog 195 = some (.agg [.val (.int .u8 0), .val (.int .u8 0)]) := by kernel_rfl
@[simp] theorem bld195 : isBld @Tryz.prog 195 = false := by kernel_rfl
@[simp] theorem places195 : placesOf @Tryz.prog 195 = some [(0, 1), (1, 1)] := by kernel_rfl
@[simp] theorem sz196 : szOf @Tryz.prog 196 = 32 := by kernel_rfl
@[simp] theorem zd196 : zeroD @Tryz.prog 196 = some [.val (.int .u8 0), .val (.int .u8 0), .val (.int .u8 0), .val (.int .u8 0), .val (.int .u8 0), .val (.int .u8 0), .val (.int .u8 0), .val (.int .u8 0), .val (.int .u8 0), .val (.int .u8 0), .val (.int .u8 0), .val (.int .u8 0), .val (.int .u8 0), .val (.int .u8 0), .val (.int .u8 0), .val (.int .u8 0), .val (.int .u8 0), .val (.int .u8 0), .val (.int .u8 0), .val (.int .u8 0), .val (.int .u8 0), .val (.int .u8 0), .val (.int .u8 0), .val (.int .u8 0), .val (.int .u8 0), .val (.int .u8 0), .val (.int .u8 0), .val (.int .u8 0), .val (.int .u8 0), .val (.int .u8 0), .val (.int .u8 0), .val (.int .u8 0)] := by kernel_rfl
@[simp] theorem ze196 : zeroElem @Tryz.prog 196 = some (.agg [.val (.int .u8 0), .val (.int .u8 0), .val (.int .u8 0), .val (.int .u8 0), .val (.int .u8 0), .val (.int .u8 0), .val (.int .u8 0), .val (.int .u8 0), .val (.int .u8 0), .val (.int .u8 0), .val (.int .u8 0), .val (.int .u8 0), .val (.int .u8 0), .val (.int .u8 0), .val (.int .u8 0), .val (.int .u8 0), .val (.int .u8 0), .val (.int .u8 0), .val (.int .u8 0), .val (.int .u8 0), .val (.int .u8 0), .val (.int .u8 0), .val (.int .u8 0), .val (.int .u8 0), .val (.int .u8 0), .val (.int .u8 0), .val (.int .u8 0), .val (.int .u8 0), .val (.int .u8 0), .val (.int .u8 0), .val (.int .u8 0), .val (.int .u8 0)]) := by kernel_rfl
@[simp] theorem bld196 : isBld @Tryz.prog 196 = false := by kernel_rfl
@[simp] theorem sz197 : szOf @Tryz.prog 197 = 1 := by kernel_rfl
@[simp] theorem zd197 : zeroD @Tryz.prog 197 = some [.val .nilFunc] := by kernel_rfl
@[simp] theorem ze197 : zeroElem @Tryz.prog 197 = some (.val .nilFunc) := by kernel_rfl
@[simp] theorem bld197 : isBld @Tryz.prog 197 = false := by kernel_rfl
@[simp] theorem sz198 : szOf @Tryz.prog 198 = 1 := by kernel_rfl
@[simp] theorem zd198 : zeroD @Tryz.prog 198 = some [.val .nilFunc] := by kernel_rfl
@[simp] theorem ze198 : zeroElem @Tryz.prog 198 = some (.val .nilFunc) := by kernel_rfl
@[simp] theorem bld198 : isBld @Tryz.prog 198 = false := by kernel_rfl
@[simp] theorem sz199 : szOf @Tryz.prog 199 = 1 := by kernel_rfl
@[simp] theorem zd199 : zeroD @Tryz.prog 199 = some [.val .nilFunc] := by kernel_rfl
@[simp] theorem ze199 : zeroElem @Tryz.prog 199 = some (.val .nilFunc) := by kernel_rfl
@[simp] theorem bld199 : isBld @Tryz.prog 199 = false := by kernel_rfl
@[simp] theorem sz201 : szOf @Tryz.prog 201 = 1 := by kernel_rfl
@[simp] theorem zd201 : zeroD @Tryz.prog 201 = some [.val .nilFunc] := by kernel_rfl
@[simp] theorem ze201 : zeroElem @Tryz.prog 201 = some (.val .nilFunc) := by kernel_rfl
@[simp] theorem bld201 : isBld @Tryz.prog 201 = false := by kernel_rfl
@[simp] theorem sz203 : szOf @Tryz.prog 203 = 1 := by kernel_rfl
@[simp] theorem zd203 : zeroD @Tryz.prog 203 = some [.val .nilFunc] := by kernel_rfl
@[simp] theorem ze203 : zeroElem @Tryz.prog 203 = some (.val .nilFunc) := by kernel_rfl
@[simp] theorem bld203 : isBld @Tryz.prog 203 = false := by kernel_rfl
@[simp] theorem sz204 : szOf @Tryz.prog 204 = 1 := by kernel_rfl
@[simp] theorem zd204 : zeroD @Tryz.prog 204 = some [.val .nilFunc] := by kernel_rfl
@[simp] theorem ze204 : zeroElem @Tryz.prog 204 = some (.val .nilFunc) := by kernel_rfl
@[simp] theorem bld204 : isBld @Tryz.prog 204 = false := by kernel_rfl
@[simp] theorem sz205 : szOf @Tryz.prog 205 = 16 := by kernel_rfl
@[simp] theorem zd205 : zeroD @Tryz.prog 205 = some [.val (.int .u8 0), .val (.int .u8 0), .val (.int .u8 0), .val (.int .u8 0), .val (.int .u8 0), .val (.int .u8 0), .val (.int .u8 0), .val (.int .u8 0), .val (.int .u8 0), .val (.int .u8 0), .val (.int .u8 0), .val (.int .u8 0), .val (.int .u8 0), .val (.int .u8 0), .val (.int .u8 0), .val (.int .u8 0)] := by kernel_rfl
@[simp] theorem ze205 : zeroElem @Tryz.prog 205 = some (.agg [.val (.int .u8 0), .val (.int .u8 0), .val (.int .u8 0), .val (.int .u8 0), .val (.int .u8 0), .val (.int .u8 0), .val (.int .u8 0), .val (.int .u8 0), .val (.int .u8 0), .val (.int .u8 0), .val (.int .u8 0), .val (.int .u8 0), .val (.int .u8 0), .val (.int .u8 0), .val (.int .u8 0), .val (.int .u8 0)]) := by kernel_rfl
@[simp] theorem bld205 : isBld @Tryz.prog 205 = false := by kernel_rfl
@[simp] theorem sz206 : szOf @Tryz.prog 206 = 1 := by kernel_rfl
@[simp] theorem zd206 : zeroD @Tryz.prog 206 = some [.val .nilFunc] := by kernel_rfl
@[simp] theorem ze206 : zeroElem @Tryz.prog 206 = some (.val .nilFunc) := by kernel_rfl
@[simp] theorem bld206 : isBld @Tryz.prog 206 = false := by kernel_rfl
@[simp] theorem sz207 : szOf @Tryz.prog 207 = 6 := by kernel_rfl
@[simp] theorem zd207 : zeroD @Tryz.prog 207 = some [.val (.string ⟨#[]⟩), .val (.string ⟨#[]⟩), .val (.string ⟨#[]⟩), .val (.int .i64 0), .slice 1 0 [], .slice 1 0 []] := by kernel_rfl
@[simp] theorem ze207 : zeroElem @Tryz.prog 207 = some (.agg [.val (.string ⟨#[]⟩), .val (.string ⟨#[]⟩), .val (.string ⟨#[]⟩), .val (.int .i64 0), .slice 1 0 [], .slice 1 0 []]) := by kernel_rfl
@[simp] theorem bld207 : isBld @Tryz.prog 207 = false := by kernel_rfl
@[simp] theorem places207 : placesOf @Tryz.prog 207 = some [(0, 1), (1, 1), (2, 1), (3, 1), (4, 1), (5, 1)] := by kernel_rfl
@[simp] theorem sz209 : szOf @Tryz.prog 209 = 1 := by kernel_rfl
@[simp] theorem zd209 : zeroD @Tryz.prog 209 = some [.val .nilFunc] := by kernel_rfl
@[simp] theorem ze209 : zeroElem @Tryz.prog 209 = some (.val .nilFunc) := by kernel_rfl
@[simp] theorem bld209 : isBld @Tryz.prog 209 = false := by kernel_rfl
@[simp] theorem sz210 : szOf @Tryz.prog 210 = 1 := by kernel_rfl
@[simp] theorem zd210 : zeroD @Tryz.prog 210 = some [.slice 1 0 []] := by kernel_rfl
@[simp] theorem ze210 : zeroElem @Tryz.prog 210 = some (.slice 1 0 []) := by kernel_rfl
@[simp] theorem bld210 : isBld @Tryz.prog 210 = false := by kernel_rfl
@[simp] theorem sz211 : szOf @Tryz.prog 211 = 1 := by kernel_rfl
@[simp] theorem zd211 : zeroD @Tryz.prog 211 = some [.val .nilFunc] := by kernel_rfl
@[simp] theorem ze211 : zeroElem @Tryz.prog 211 = some (.val .nilFunc) := by kernel_rfl
@[simp] theorem bld211 : isBld @Tryz.prog 211 = false := by kernel_rfl
@[simp] theorem sz212 : szOf @Tryz.prog 212 = 60 := by kernel_rfl
@[simp] theorem zd212 : zeroD @Tryz.prog 212 = some [.val (.string ⟨#[]⟩), .val (.string ⟨#[]⟩), .val (.string ⟨#[]⟩), .val (.int .i64 0), .slice 1 0 [], .slice 1 0 [], .val (.string ⟨#[]⟩), .val (.string ⟨#[]⟩), .val (.string ⟨#[]⟩), .val (.int .i64 0), .slice 1 0 [], .slice 1 0 [], .val (.string ⟨#[]⟩), .val (.string ⟨#[]⟩), .val (.string ⟨#[]⟩), .val (.int .i64 0), .slice 1 0 [], .slice 1 0 [], .val (.string ⟨#[]⟩), .val (.string ⟨#[]⟩), .val (.string ⟨#[]⟩), .val (.int .i64 0), .slice 1 0 [], .slice 1 0 [], .val (.string ⟨#[]⟩), .val (.string ⟨#[]⟩), .val (.string ⟨#[]⟩), .val (.int .i64 0), .slice 1 0 [], .slice 1 0 [], .val (.string ⟨#[]⟩), .val (.string ⟨#[]⟩), .val (.string ⟨#[]⟩), .val (.int .i64 0), .slice 1 0 [], .slice 1 0 [], .val (.string ⟨#[]⟩), .val (.string ⟨#[]⟩), .val (.string ⟨#[]⟩), .val (.int .i64 0), .slice 1 0 [], .slice 1 0 [], .val (.string ⟨#[]⟩), .val (.string ⟨#[]⟩), .val (.string ⟨#[]⟩), .val (.int .i64 0), .slice 1 0 [], .slice 1 0 [], .val (.string ⟨#[]⟩), .val (.string ⟨#[]⟩), .val (.string ⟨#[]⟩), .val (.int .i64 0), .slice 1 0 [], .slice 1 0 [], .val (.string ⟨#[]⟩), .val (.string ⟨#[]⟩), .val (.string ⟨#[]⟩), .val (.int .i64 0), .slice 1 0 [], .slice 1 0 []] := by kernel_rfl
@[simp] theorem ze212 : zeroElem @Tryz.prog 212 = some (.agg [.val (.string ⟨#[]⟩), .val (.string ⟨#[]⟩), .val (.string ⟨#[]⟩), .val (.int .i64 0), .slice 1 0 [], .slice 1 0 [], .val (.string ⟨#[]⟩), .val (.string ⟨#[]⟩), .val (.string ⟨#[]⟩), .val (.int .i64 0), .slice 1 0 [], .slice 1 0 [], .val (.string ⟨#[]⟩), .val (.string ⟨#[]⟩), .val (.string ⟨#[]⟩), .val (.int .i64 0), .slice 1 0 [], .slice 1 0 [], .val (.string ⟨#[]⟩), .val (.string ⟨#[]⟩), .val (.string ⟨#[]⟩), .val (.int .i64 0), .slice 1 0 [], .slice 1 0 [], .val (.string ⟨#[]⟩), .val (.string ⟨#[]⟩), .val (.string ⟨#[]⟩), .val (.int .i64 0), .slice 1 0 [], .slice 1 0 [], .val (.string ⟨#[]⟩), .val (.string ⟨#[]⟩), .val (.string ⟨#[]⟩), .val (.int .i64 0), .slice 1 0 [], .slice 1 0 [], .val (.string ⟨#[]⟩), .val (.string ⟨#[]⟩), .val (.string ⟨#[]⟩), .val (.int .i64 0), .slice 1 0 [], .slice 1 0 [], .val (.string ⟨#[]⟩), .val (.string ⟨#[]⟩), .val (.string ⟨#[]⟩), .val (.int .i64 0), .slice 1 0 [], .slice 1 0 [], .val (.string ⟨#[]⟩), .val (.string ⟨#[]⟩), .val (.string ⟨#[]⟩), .val (.int .i64 0), .slice 1 0 [], .slice 1 0 [], .val (.string ⟨#[]⟩), .val (.string ⟨#[]⟩), .val (.string ⟨#[]⟩), .val (.int .i64 0), .slice 1 0 [], .slice 1 0 []]) := by kernel_rfl
@[simp] theorem bld212 : isBld @Tryz.prog 212 = false := by kernel_rfl
@[simp] theorem sz213 : szOf @Tryz.prog 213 = 1 := by kernel_rfl
@[simp] theorem zd213 : zeroD @Tryz.prog 213 = some [.val .nilFunc] := by kernel_rfl
@[simp] theorem ze213 : zeroElem @Tryz.prog 213 = some (.val .nilFunc) := by kernel_rfl
@[simp] theorem bld213 : isBld @Tryz.prog 213 = false := by kernel_rfl
@[simp] theorem sz214 : szOf @Tryz.prog 214 = 1 := by kernel_rfl
@[simp] theorem zd214 : zeroD @Tryz.prog 214 = some [.val .nilFunc] := by kernel_rfl
@[simp] theorem ze214 : zeroElem @Tryz.prog 214 = some (.val .nilFunc) := by kernel_rfl
@[simp] theorem bld214 : isBld @Tryz.prog 214 = false := by kernel_rfl
@[simp] theorem sz215 : szOf @Tryz.prog 215 = 1 := by kernel_rfl
@[simp] theorem zd215 : zeroD @Tryz.prog 215 = some [.val .nilFunc] := by kernel_rfl
@[simp] theorem ze215 : zeroElem @Tryz.prog 215 = some (.val .nilFunc) := by kernel_rfl
@[simp] theorem bld215 : isBld @Tryz.prog 215 = false := by kernel_rfl
@[simp ↓] theorem append22 (s x : D) (H : Heap) : eAppend @Tryz.prog 22 22 s x H = appK 37 24 s (news @Tryz.prog H 37 22 x) H := eAppend_of @Tryz.underlying22 (show @Tryz.prog.info? 37 = some @Tryz.t37 from rfl) (show @Tryz.t37.zero = some _ from rfl) (by kernel_rfl) (by decide) (by decide) (by kernel_rfl) s x H
@[simp ↓] theorem append23 (s x : D) (H : Heap) : eAppend @Tryz.prog 23 23 s x H = appK 37 24 s (news @Tryz.prog H 37 23 x) H := eAppend_of @Tryz.underlying23 (show @Tryz.prog.info? 37 = some @Tryz.t37 from rfl) (show @Tryz.t37.zero = some _ from rfl) (by kernel_rfl) (by decide) (by decide) (by kernel_rfl) s x H
@[simp ↓] theorem append24 (s x : D) (H : Heap) : eAppend @Tryz.prog 24 24 s x H = appK 36 24 s (news @Tryz.prog H 36 24 x) H := eAppend_of @Tryz.underlying24 (show @Tryz.prog.info? 36 = some @Tryz.t36 from rfl) (show @Tryz.t36.zero = some _ from rfl) (by kernel_rfl) (by decide) (by decide) (by kernel_rfl) s x H
@[simp ↓] theorem append36 (s x : D) (H : Heap) : eAppend @Tryz.prog 36 36 s x H = appK 35 32 s (news @Tryz.prog H 35 36 x) H := eAppend_of @Tryz.underlying36 (show @Tryz.prog.info? 35 = some @Tryz.t35 from rfl) (show @Tryz.t35.zero = some _ from rfl) (by kernel_rfl) (by decide) (by decide) (by kernel_rfl) s x H
@[simp ↓] theorem append37 (s x : D) (H : Heap) : eAppend @Tryz.prog 37 37 s x H = appK 35 32 s (news @Tryz.prog H 35 37 x) H := eAppend_of @Tryz.underlying37 (show @Tryz.prog.info? 35 = some @Tryz.t35 from rfl) (show @Tryz.t35.zero = some _ from rfl) (by kernel_rfl) (by decide) (by decide) (by kernel_rfl) s x H
@[simp ↓] theorem append43 (s x : D) (H : Heap) : eAppend @Tryz.prog 43 43 s x H = appK 9 16 s (news @Tryz.prog H 9 43 x) H := eAppend_of @Tryz.underlying43 (show @Tryz.prog.info? 9 = some @Tryz.t9 from rfl) (show @Tryz.t9.zero = some _ from rfl) (by kernel_rfl) (by decide) (by decide) (by kernel_rfl) s x H
@[simp ↓] theorem append62 (s x : D) (H : Heap) : eAppend @Tryz.prog 62 62 s x H = appK 45 64 s (news @Tryz.prog H 45 62 x) H := eAppend_of @Tryz.underlying62 (show @Tryz.prog.info? 45 = some @Tryz.t45 from rfl) (show @Tryz.t45.zero = some _ from rfl) (by kernel_rfl) (by decide) (by decide) (by kernel_rfl) s x H
@[simp ↓] theorem append71 (s x : D) (H : Heap) : eAppend @Tryz.prog 71 71 s x H = appK 3 8 s (news @Tryz.prog H 3 71 x) H := eAppend_of @Tryz.underlying71 (show @Tryz.prog.info? 3 = some @Tryz.t3 from rfl) (show @Tryz.t3.zero = some _ from rfl) (by kernel_rfl) (by decide) (by decide) (by kernel_rfl) s x H
@[simp ↓] theorem append78 (s x : D) (H : Heap) : eAppend @Tryz.prog 78 78 s x H = appK 5 1 s (news @Tryz.prog H 5 78 x) H := eAppend_of @Tryz.underlying78 (show @Tryz.prog.info? 5 = some @Tryz.t5 from rfl) (show @Tryz.t5.zero = some _ from rfl) (by kernel_rfl) (by decide) (by decide) (by kernel_rfl) s x H
@[simp ↓] theorem append84 (s x : D) (H : Heap) : eAppend @Tryz.prog 84 84 s x H = appK 54 64 s (news @Tryz.prog H 54 84 x) H := eAppend_of @Tryz.underlying84 (show @Tryz.prog.info? 54 = some @Tryz.t54 from rfl) (show @Tryz.t54.zero = some _ from rfl) (by kernel_rfl) (by decide) (by decide) (by kernel_rfl) s x H
@[simp ↓] theorem append104 (s x : D) (H : Heap) : eAppend @Tryz.prog 104 104 s x H = appK 75 104 s (news @Tryz.prog H 75 104 x) H := eAppend_of @Tryz.underlying104 (show @Tryz.prog.info? 75 = some @Tryz.t75 from rfl) (show @Tryz.t75.zero = some _ from rfl) (by kernel_rfl) (by decide) (by decide) (by kernel_rfl) s x H
@[simp ↓] theorem append210 (s x : D) (H : Heap) : eAppend @Tryz.prog 210 210 s x H = appK 207 104 s (news @Tryz.prog H 207 210 x) H := eAppend_of @Tryz.underlying210 (show @Tryz.prog.info? 207 = some @Tryz.t207 from rfl) (show @Tryz.t207.zero = some _ from rfl) (by kernel_rfl) (by decide) (by decide) (by kernel_rfl) s x H
@[simp ↓] theorem append78_9 (s x : D) (H : Heap) : eAppend @Tryz.prog 78 9 s x H = appK 5 1 s (news @Tryz.prog H 5 9 x) H := eAppend_of @Tryz.underlying78 (show @Tryz.prog.info? 5 = some @Tryz.t5 from rfl) (show @Tryz.t5.zero = some _ from rfl) (by kernel_rfl) (by decide) (by decide) (by kernel_rfl) s x H
@[simp ↓] theorem append78_10 (s x : D) (H : Heap) : eAppend @Tryz.prog 78 10 s x H = appK 5 1 s (news @Tryz.prog H 5 10 x) H := eAppend_of @Tryz.underlying78 (show @Tryz.prog.info? 5 = some @Tryz.t5 from rfl) (show @Tryz.t5.zero = some _ from rfl) (by kernel_rfl) (by decide) (by decide) (by kernel_rfl) s x H
@[simp ↓] theorem append78_11 (s x : D) (H : Heap) : eAppend @Tryz.prog 78 11 s x H = appK 5 1 s (news @Tryz.prog H 5 11 x) H := eAppend_of @Tryz.underlying78 (show @Tryz.prog.info? 5 = some @Tryz.t5 from rfl) (show @Tryz.t5.zero = some _ from rfl) (by kernel_rfl) (by decide) (by decide) (by kernel_rfl) s x H
@[simp ↓] theorem make22 (a c : D) (H : Heap) : eMakeSlice @Tryz.prog 22 a c H = mkK 37 24 (.slice 1 0 []) a c H := eMake_of @Tryz.underlying22 (show @Tryz.prog.info? 37 = some @Tryz.t37 from rfl) ze37 (by kernel_rfl) (by decide) a c H
@[simp ↓] theorem make23 (a c : D) (H : Heap) : eMakeSlice @Tryz.prog 23 a c H = mkK 37 24 (.slice 1 0 []) a c H := eMake_of @Tryz.underlying23 (show @Tryz.prog.info? 37 = some @Tryz.t37 from rfl) ze37 (by kernel_rfl) (by decide) a c H
@[simp ↓] theorem make24 (a c : D) (H : Heap) : eMakeSlice @Tryz.prog 24 a c H = mkK 36 24 (.slice 1 0 []) a c H := eMake_of @Tryz.underlying24 (show @Tryz.prog.info? 36 = some @Tryz.t36 from rfl) ze36 (by kernel_rfl) (by decide) a c H
@[simp ↓] theorem make36 (a c : D) (H : Heap) : eMakeSlice @Tryz.prog 36 a c H = mkK 35 32 (.agg [.val (.string ⟨#[]⟩), .val (.string ⟨#[]⟩)]) a c H := eMake_of @Tryz.underlying36 (show @Tryz.prog.info? 35 = some @Tryz.t35 from rfl) ze35 (by kernel_rfl) (by decide) a c H
@[simp ↓] theorem make37 (a c : D) (H : Heap) : eMakeSlice @Tryz.prog 37 a c H = mkK 35 32 (.agg [.val (.string ⟨#[]⟩), .val (.string ⟨#[]⟩)]) a c H := eMake_of @Tryz.underlying37 (show @Tryz.prog.info? 35 = some @Tryz.t35 from rfl) ze35 (by kernel_rfl) (by decide) a c H
@[simp ↓] theorem make43 (a c : D) (H : Heap) : eMakeSlice @Tryz.prog 43 a c H = mkK 9 16 (.val (.string ⟨#[]⟩)) a c H := eMake_of @Tryz.underlying43 (show @Tryz.prog.info? 9 = some @Tryz.t9 from rfl) ze9 (by kernel_rfl) (by decide) a c H
@[simp ↓] theorem make62 (a c : D) (H : Heap) : eMakeSlice @Tryz.prog 62 a c H = mkK 45 64 (.agg [.val (.string ⟨#[]⟩), .val (.string ⟨#[]⟩), .val (.string ⟨#[]⟩), .val (.int .i64 0), .val (.bool false)]) a c H := eMake_of @Tryz.underlying62 (show @Tryz.prog.info? 45 = some @Tryz.t45 from rfl) ze45 (by kernel_rfl) (by decide) a c H
@[simp ↓] theorem make71 (a c : D) (H : Heap) : eMakeSlice @Tryz.prog 71 a c H = mkK 3 8 (.val (.int .i64 0)) a c H := eMake_of @Tryz.underlying71 (show @Tryz.prog.info? 3 = some @Tryz.t3 from rfl) ze3 (by kernel_rfl) (by decide) a c H
@[simp ↓] theorem make78 (a c : D) (H : Heap) : eMakeSlice @Tryz.prog 78 a c H = mkK 5 1 (.val (.int .u8 0)) a c H := eMake_of @Tryz.underlying78 (show @Tryz.prog.info? 5 = some @Tryz.t5 from rfl) ze5 (by kernel_rfl) (by decide) a c H
@[simp ↓] theorem make84 (a c : D) (H : Heap) : eMakeSlice @Tryz.prog 84 a c H = mkK 54 64 (.agg [.val (.string ⟨#[]⟩), .val (.string ⟨#[]⟩), .val (.string ⟨#[]⟩), .val (.int .i64 0), .val (.bool false)]) a c H := eMake_of @Tryz.underlying84 (show @Tryz.prog.info? 54 = some @Tryz.t54 from rfl) ze54 (by kernel_rfl) (by decide) a c H
@[simp ↓] theorem make104 (a c : D) (H : Heap) : eMakeSlice @Tryz.prog 104 a c H = mkK 75 104 (.agg [.val (.string ⟨#[]⟩), .val (.string ⟨#[]⟩), .val (.string ⟨#[]⟩), .val (.int .i64 0), .slice 1 0 [], .slice 1 0 []]) a c H := eMake_of @Tryz.underlying104 (show @Tryz.prog.info? 75 = some @Tryz.t75 from rfl) ze75 (by kernel_rfl) (by decide) a c H
@[simp ↓] theorem make210 (a c : D) (H : Heap) : eMakeSlice @Tryz.prog 210 a c H = mkK 207 104 (.agg [.val (.string ⟨#[]⟩), .val (.string ⟨#[]⟩), .val (.string ⟨#[]⟩), .val (.int .i64 0), .slice 1 0 [], .slice 1 0 []]) a c H := eMake_of @Tryz.underlying210 (show @Tryz.prog.info? 207 = some @Tryz.t207 from rfl) ze207 (by kernel_rfl) (by decide) a c H
@[simp] theorem lenT9 (s : ByteArray) (H : Heap) : eLen @Tryz.prog 9 (.val (.string s)) H = some (.val (.int .i64 s.data.toList.length)) := by unfold eLen; rw [@Tryz.underlying9]
@[simp] theorem lenT10 (s : ByteArray) (H : Heap) : eLen @Tryz.prog 10 (.val (.string s)) H = some (.val (.int .i64 s.data.toList.length)) := by unfold eLen; rw [@Tryz.underlying10]
@[simp] theorem lenT11 (s : ByteArray) (H : Heap) : eLen @Tryz.prog 11 (.val (.string s)) H = some (.val (.int .i64 s.data.toList.length)) := by unfold eLen; rw [@Tryz.underlying11]
@[simp] theorem lenS22 (g e : Nat) (l : List D) (H : Heap) : eLen @Tryz.prog 22 (.slice g e l) H = some (.val (.int .i64 l.length)) := by unfold eLen; rw [@Tryz.underlying22]
@[simp] theorem lenR22 (i e o m : Nat) (H : Heap) : eLen @Tryz.prog 22 (.row i e o m) H = some (.val (.int .i64 m)) := by unfold eLen; rw [@Tryz.underlying22]
@[simp] theorem lenA22 (i e o m : Nat) (H : Heap) : eLen @Tryz.prog 22 (.arr i e o m) H = some (.val (.int .i64 m)) := by unfold eLen; rw [@Tryz.underlying22]
theorem lenG22 {H : Heap} {x : D} {e : Nat} {l : List D} (h : Grow H x e l) (H2 : Heap) : eLen @Tryz.prog 22 x H2 = some (.val (.int .i64 l.length)) := by rcases h with ⟨rfl, rfl⟩ | ⟨i, _, rfl, _⟩ <;> simp
@[simp] theorem lenS23 (g e : Nat) (l : List D) (H : Heap) : eLen @Tryz.prog 23 (.slice g e l) H = some (.val (.int .i64 l.length)) := by unfold eLen; rw [@Tryz.underlying23]
@[simp] theorem lenR23 (i e o m : Nat) (H : Heap) : eLen @Tryz.prog 23 (.row i e o m) H = some (.val (.int .i64 m)) := by unfold eLen; rw [@Tryz.underlying23]
@[simp] theorem lenA23 (i e o m : Nat) (H : Heap) : eLen @Tryz.prog 23 (.arr i e o m) H = some (.val (.int .i64 m)) := by unfold eLen; rw [@Tryz.underlying23]
theorem lenG23 {H : Heap} {x : D} {e : Nat} {l : List D} (h : Grow H x e l) (H2 : Heap) : eLen @Tryz.prog 23 x H2 = some (.val (.int .i64 l.length)) := by rcases h with ⟨rfl, rfl⟩ | ⟨i, _, rfl, _⟩ <;> simp
@[simp] theorem lenS24 (g e : Nat) (l : List D) (H : Heap) : eLen @Tryz.prog 24 (.slice g e l) H = some (.val (.int .i64 l.length)) := by unfold eLen; rw [@Tryz.underlying24]
@[simp] theorem lenR24 (i e o m : Nat) (H : Heap) : eLen @Tryz.prog 24 (.row i e o m) H = some (.val (.int .i64 m)) := by unfold eLen; rw [@Tryz.underlying24]
@[simp] theorem lenA24 (i e o m : Nat) (H : Heap) : eLen @Tryz.prog 24 (.arr i e o m) H = some (.val (.int .i64 m)) := by unfold eLen; rw [@Tryz.underlying24]
theorem lenG24 {H : Heap} {x : D} {e : Nat} {l : List D} (h : Grow H x e l) (H2 : Heap) : eLen @Tryz.prog 24 x H2 = some (.val (.int .i64 l.length)) := by rcases h with ⟨rfl, rfl⟩ | ⟨i, _, rfl, _⟩ <;> simp
@[simp] theorem lenS36 (g e : Nat) (l : List D) (H : Heap) : eLen @Tryz.prog 36 (.slice g e l) H = some (.val (.int .i64 l.length)) := by unfold eLen; rw [@Tryz.underlying36]
@[simp] theorem lenR36 (i e o m : Nat) (H : Heap) : eLen @Tryz.prog 36 (.row i e o m) H = some (.val (.int .i64 m)) := by unfold eLen; rw [@Tryz.underlying36]
@[simp] theorem lenA36 (i e o m : Nat) (H : Heap) : eLen @Tryz.prog 36 (.arr i e o m) H = some (.val (.int .i64 m)) := by unfold eLen; rw [@Tryz.underlying36]
theorem lenG36 {H : Heap} {x : D} {e : Nat} {l : List D} (h : Grow H x e l) (H2 : Heap) : eLen @Tryz.prog 36 x H2 = some (.val (.int .i64 l.length)) := by rcases h with ⟨rfl, rfl⟩ | ⟨i, _, rfl, _⟩ <;> simp
@[simp] theorem lenS37 (g e : Nat) (l : List D) (H : Heap) : eLen @Tryz.prog 37 (.slice g e l) H = some (.val (.int .i64 l.length)) := by unfold eLen; rw [@Tryz.underlying37]
@[simp] theorem lenR37 (i e o m : Nat) (H : Heap) : eLen @Tryz.prog 37 (.row i e o m) H = some (.val (.int .i64 m)) := by unfold eLen; rw [@Tryz.underlying37]
@[simp] theorem lenA37 (i e o m : Nat) (H : Heap) : eLen @Tryz.prog 37 (.arr i e o m) H = some (.val (.int .i64 m)) := by unfold eLen; rw [@Tryz.underlying37]
theorem lenG37 {H : Heap} {x : D} {e : Nat} {l : List D} (h : Grow H x e l) (H2 : Heap) : eLen @Tryz.prog 37 x H2 = some (.val (.int .i64 l.length)) := by rcases h with ⟨rfl, rfl⟩ | ⟨i, _, rfl, _⟩ <;> simp
@[simp] theorem lenS43 (g e : Nat) (l : List D) (H : Heap) : eLen @Tryz.prog 43 (.slice g e l) H = some (.val (.int .i64 l.length)) := by unfold eLen; rw [@Tryz.underlying43]
@[simp] theorem lenR43 (i e o m : Nat) (H : Heap) : eLen @Tryz.prog 43 (.row i e o m) H = some (.val (.int .i64 m)) := by unfold eLen; rw [@Tryz.underlying43]
@[simp] theorem lenA43 (i e o m : Nat) (H : Heap) : eLen @Tryz.prog 43 (.arr i e o m) H = some (.val (.int .i64 m)) := by unfold eLen; rw [@Tryz.underlying43]
theorem lenG43 {H : Heap} {x : D} {e : Nat} {l : List D} (h : Grow H x e l) (H2 : Heap) : eLen @Tryz.prog 43 x H2 = some (.val (.int .i64 l.length)) := by rcases h with ⟨rfl, rfl⟩ | ⟨i, _, rfl, _⟩ <;> simp
@[simp] theorem lenS62 (g e : Nat) (l : List D) (H : Heap) : eLen @Tryz.prog 62 (.slice g e l) H = some (.val (.int .i64 l.length)) := by unfold eLen; rw [@Tryz.underlying62]
@[simp] theorem lenR62 (i e o m : Nat) (H : Heap) : eLen @Tryz.prog 62 (.row i e o m) H = some (.val (.int .i64 m)) := by unfold eLen; rw [@Tryz.underlying62]
@[simp] theorem lenA62 (i e o m : Nat) (H : Heap) : eLen @Tryz.prog 62 (.arr i e o m) H = some (.val (.int .i64 m)) := by unfold eLen; rw [@Tryz.underlying62]
theorem lenG62 {H : Heap} {x : D} {e : Nat} {l : List D} (h : Grow H x e l) (H2 : Heap) : eLen @Tryz.prog 62 x H2 = some (.val (.int .i64 l.length)) := by rcases h with ⟨rfl, rfl⟩ | ⟨i, _, rfl, _⟩ <;> simp
@[simp] theorem lenS71 (g e : Nat) (l : List D) (H : Heap) : eLen @Tryz.prog 71 (.slice g e l) H = some (.val (.int .i64 l.length)) := by unfold eLen; rw [@Tryz.underlying71]
@[simp] theorem lenR71 (i e o m : Nat) (H : Heap) : eLen @Tryz.prog 71 (.row i e o m) H = some (.val (.int .i64 m)) := by unfold eLen; rw [@Tryz.underlying71]
@[simp] theorem lenA71 (i e o m : Nat) (H : Heap) : eLen @Tryz.prog 71 (.arr i e o m) H = some (.val (.int .i64 m)) := by unfold eLen; rw [@Tryz.underlying71]
theorem lenG71 {H : Heap} {x : D} {e : Nat} {l : List D} (h : Grow H x e l) (H2 : Heap) : eLen @Tryz.prog 71 x H2 = some (.val (.int .i64 l.length)) := by rcases h with ⟨rfl, rfl⟩ | ⟨i, _, rfl, _⟩ <;> simp
@[simp] theorem lenS78 (g e : Nat) (l : List D) (H : Heap) : eLen @Tryz.prog 78 (.slice g e l) H = some (.val (.int .i64 l.length)) := by unfold eLen; rw [@Tryz.underlying78]
@[simp] theorem lenR78 (i e o m : Nat) (H : Heap) : eLen @Tryz.prog 78 (.row i e o m) H = some (.val (.int .i64 m)) := by unfold eLen; rw [@Tryz.underlying78]
@[simp] theorem lenA78 (i e o m : Nat) (H : Heap) : eLen @Tryz.prog 78 (.arr i e o m) H = some (.val (.int .i64 m)) := by unfold eLen; rw [@Tryz.underlying78]
theorem lenG78 {H : Heap} {x : D} {e : Nat} {l : List D} (h : Grow H x e l) (H2 : Heap) : eLen @Tryz.prog 78 x H2 = some (.val (.int .i64 l.length)) := by rcases h with ⟨rfl, rfl⟩ | ⟨i, _, rfl, _⟩ <;> simp
@[simp] theorem lenS84 (g e : Nat) (l : List D) (H : Heap) : eLen @Tryz.prog 84 (.slice g e l) H = some (.val (.int .i64 l.length)) := by unfold eLen; rw [@Tryz.underlying84]
@[simp] theorem lenR84 (i e o m : Nat) (H : Heap) : eLen @Tryz.prog 84 (.row i e o m) H = some (.val (.int .i64 m)) := by unfold eLen; rw [@Tryz.underlying84]
@[simp] theorem lenA84 (i e o m : Nat) (H : Heap) : eLen @Tryz.prog 84 (.arr i e o m) H = some (.val (.int .i64 m)) := by unfold eLen; rw [@Tryz.underlying84]
theorem lenG84 {H : Heap} {x : D} {e : Nat} {l : List D} (h : Grow H x e l) (H2 : Heap) : eLen @Tryz.prog 84 x H2 = some (.val (.int .i64 l.length)) := by rcases h with ⟨rfl, rfl⟩ | ⟨i, _, rfl, _⟩ <;> simp
@[simp] theorem lenS104 (g e : Nat) (l : List D) (H : Heap) : eLen @Tryz.prog 104 (.slice g e l) H = some (.val (.int .i64 l.length)) := by unfold eLen; rw [@Tryz.underlying104]
@[simp] theorem lenR104 (i e o m : Nat) (H : Heap) : eLen @Tryz.prog 104 (.row i e o m) H = some (.val (.int .i64 m)) := by unfold eLen; rw [@Tryz.underlying104]
@[simp] theorem lenA104 (i e o m : Nat) (H : Heap) : eLen @Tryz.prog 104 (.arr i e o m) H = some (.val (.int .i64 m)) := by unfold eLen; rw [@Tryz.underlying104]
theorem lenG104 {H : Heap} {x : D} {e : Nat} {l : List D} (h : Grow H x e l) (H2 : Heap) : eLen @Tryz.prog 104 x H2 = some (.val (.int .i64 l.length)) := by rcases h with ⟨rfl, rfl⟩ | ⟨i, _, rfl, _⟩ <;> simp
@[simp] theorem lenY117 (x : D) (H : Heap) : (eLen @Tryz.prog 117 x H).isSome = (eLen @Tryz.prog 117 x H).isSome := rfl
@[simp] theorem lenY163 (x : D) (H : Heap) : (eLen @Tryz.prog 163 x H).isSome = (eLen @Tryz.prog 163 x H).isSome := rfl
@[simp] theorem lenY184 (x : D) (H : Heap) : (eLen @Tryz.prog 184 x H).isSome = (eLen @Tryz.prog 184 x H).isSome := rfl
@[simp] theorem lenY185 (x : D) (H : Heap) : (eLen @Tryz.prog 185 x H).isSome = (eLen @Tryz.prog 185 x H).isSome := rfl
@[simp] theorem lenY193 (x : D) (H : Heap) : (eLen @Tryz.prog 193 x H).isSome = (eLen @Tryz.prog 193 x H).isSome := rfl
@[simp] theorem lenY196 (x : D) (H : Heap) : (eLen @Tryz.prog 196 x H).isSome = (eLen @Tryz.prog 196 x H).isSome := rfl
@[simp] theorem lenY205 (x : D) (H : Heap) : (eLen @Tryz.prog 205 x H).isSome = (eLen @Tryz.prog 205 x H).isSome := rfl
@[simp] theorem lenS210 (g e : Nat) (l : List D) (H : Heap) : eLen @Tryz.prog 210 (.slice g e l) H = some (.val (.int .i64 l.length)) := by unfold eLen; rw [@Tryz.underlying210]
@[simp] theorem lenR210 (i e o m : Nat) (H : Heap) : eLen @Tryz.prog 210 (.row i e o m) H = some (.val (.int .i64 m)) := by unfold eLen; rw [@Tryz.underlying210]
@[simp] theorem lenA210 (i e o m : Nat) (H : Heap) : eLen @Tryz.prog 210 (.arr i e o m) H = some (.val (.int .i64 m)) := by unfold eLen; rw [@Tryz.underlying210]
theorem lenG210 {H : Heap} {x : D} {e : Nat} {l : List D} (h : Grow H x e l) (H2 : Heap) : eLen @Tryz.prog 210 x H2 = some (.val (.int .i64 l.length)) := by rcases h with ⟨rfl, rfl⟩ | ⟨i, _, rfl, _⟩ <;> simp
@[simp] theorem lenY212 (x : D) (H : Heap) : (eLen @Tryz.prog 212 x H).isSome = (eLen @Tryz.prog 212 x H).isSome := rfl
attribute [-simp] eLen
attribute [simp] mkK eBuildSlice Heap.new_get Heap.put_get
theorem mixedO : @Tryz.prog.follows .mixedOrders = true := by kernel_rfl
end Go.Pv
