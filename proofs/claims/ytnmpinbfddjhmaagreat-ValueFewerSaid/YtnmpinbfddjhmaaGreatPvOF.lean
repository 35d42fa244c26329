/- A part of the proof: functions of the program, walked, or what operations come to. -/
import Derived.Test.YtnmpinbfddjhmaaGreatPvGen
import Derived.Test.YtnmpinbfddjhmaaGreatPvApp
import Derived.Test.YtnmpinbfddjhmaaGreatPvN2
import Derived.Test.YtnmpinbfddjhmaaGreatProg
import Derived.KernelRfl
set_option maxRecDepth 100000
namespace Go.Pv
open Go.Proofs
/-! What is known of the types. -/
@[simp] theorem sz1 : szOf @Tryz.prog 1 = 1 := by kernel_rfl
@[simp] theorem zd1 : zeroD @Tryz.prog 1 = some [.val .nilFunc] := by kernel_rfl
@[simp] theorem ze1 : zeroElem @Tryz.prog 1 = some (.val .nilFunc) := by kernel_rfl
@[simp] theorem bld1 : isBld @Tryz.prog 1 = false := by kernel_rfl
@[simp] theorem sz2 : szOf @Tryz.prog 2 = 1 := by kernel_rfl
@[simp] theorem zd2 : zeroD @Tryz.prog 2 = some [.val (.int .i64 0)] := by kernel_rfl
@[simp] theorem ze2 : zeroElem @Tryz.prog 2 = some (.val (.int .i64 0)) := by kernel_rfl
@[simp] theorem bld2 : isBld @Tryz.prog 2 = false := by kernel_rfl
@[simp] theorem sz3 : szOf @Tryz.prog 3 = 1 := by kernel_rfl
@[simp] theorem zd3 : zeroD @Tryz.prog 3 = some [.val (.int .i64 0)] := by kernel_rfl
@[simp] theorem ze3 : zeroElem @Tryz.prog 3 = some (.val (.int .i64 0)) := by kernel_rfl
@[simp] theorem bld3 : isBld @Tryz.prog 3 = false := by kernel_rfl
@[simp] theorem sz4 : szOf @Tryz.prog 4 = 1 := by kernel_rfl
@[simp] theorem zd4 : zeroD @Tryz.prog 4 = some [.val (.bool false)] := by kernel_rfl
@[simp] theorem ze4 : zeroElem @Tryz.prog 4 = some (.val (.bool false)) := by kernel_rfl
@[simp] theorem bld4 : isBld @Tryz.prog 4 = false := by kernel_rfl
@[simp] theorem sz5 : szOf @Tryz.prog 5 = 1 := by kernel_rfl
@[simp] theorem zd5 : zeroD @Tryz.prog 5 = some [.val (.int .u8 0)] := by kernel_rfl
@[simp] theorem ze5 : zeroElem @Tryz.prog 5 = some (.val (.int .u8 0)) := by kernel_rfl
@[simp] theorem bld5 : isBld @Tryz.prog 5 = false := by kernel_rfl
@[simp] theorem sz6 : szOf @Tryz.prog 6 = 1 := by kernel_rfl
@[simp] theorem zd6 : zeroD @Tryz.prog 6 = some [.val (.int .u8 0)] := by kernel_rfl
@[simp] theorem ze6 : zeroElem @Tryz.prog 6 = some (.val (.int .u8 0)) := by kernel_rfl
@[simp] theorem bld6 : isBld @Tryz.prog 6 = false := by kernel_rfl
@[simp] theorem sz7 : szOf @Tryz.prog 7 = 4 := by kernel_rfl
@[simp] theorem zd7 : zeroD @Tryz.prog 7 = some [.val (.int .i64 0), .val (.int .i64 0), .val (.bool false), .val (.int .u8 0)] := by kernel_rfl
@[simp] theorem ze7 : zeroElem @Tryz.prog 7 = some (.agg [.val (.int .i64 0), .val (.int .i64 0), .val (.bool false), .val (.int .u8 0)]) := by kernel_rfl
@[simp] theorem bld7 : isBld @Tryz.prog 7 = false := by kernel_rfl
@[simp] theorem places7 : placesOf @Tryz.prog 7 = some [(0, 1), (1, 1), (2, 1), (3, 1)] := by kernel_rfl
@[simp] theorem sz8 : szOf @Tryz.prog 8 = 4 := by kernel_rfl
@[simp] theorem zd8 : zeroD @Tryz.prog 8 = some [.val (.int .i64 0), .val (.int .i64 0), .val (.bool false), .val (.int .u8 0)] := by kernel_rfl
@[simp] theorem ze8 : zeroElem @Tryz.prog 8 = some (.agg [.val (.int .i64 0), .val (.int .i64 0), .val (.bool false), .val (.int .u8 0)]) := by kernel_rfl
@[simp] theorem bld8 : isBld @Tryz.prog 8 = false := by kernel_rfl
@[simp] theorem places8 : placesOf @Tryz.prog 8 = some [(0, 1), (1, 1), (2, 1), (3, 1)] := by kernel_rfl
@[simp] theorem sz9 : szOf @Tryz.prog 9 = 1 := by kernel_rfl
@[simp] theorem zd9 : zeroD @Tryz.prog 9 = some [.val (.string ⟨#[]⟩)] := by kernel_rfl
@[simp] theorem ze9 : zeroElem @Tryz.prog 9 = some (.val (.string ⟨#[]⟩)) := by kernel_rfl
@[simp] theorem bld9 : isBld @Tryz.prog 9 = false := by kernel_rfl
@[simp] theorem sz10 : szOf @Tryz.prog 10 = 1 := by kernel_rfl
@[simp] theorem zd10 : zeroD @Tryz.prog 10 = some [.val (.string ⟨#[]⟩)] := by kernel_rfl
@[simp] theorem ze10 : zeroElem @Tryz.prog 10 = some (.val (.string ⟨#[]⟩)) := by kernel_rfl
@[simp] theorem bld10 : isBld @Tryz.prog 10 = false := by kernel_rfl
@[simp] theorem sz11 : szOf @Tryz.prog 11 = 1 := by kernel_rfl
@[simp] theorem zd11 : zeroD @Tryz.prog 11 = some [.val (.string ⟨#[]⟩)] := by kernel_rfl
@[simp] theorem ze11 : zeroElem @Tryz.prog 11 = some (.val (.string ⟨#[]⟩)) := by kernel_rfl
@[simp] theorem bld11 : isBld @Tryz.prog 11 = false := by kernel_rfl
@[simp] theorem sz12 : szOf @Tryz.prog 12 = 1 := by kernel_rfl
@[simp] theorem zd12 : zeroD @Tryz.prog 12 = some [.val (.int .u64 0)] := by kernel_rfl
@[simp] theorem ze12 : zeroElem @Tryz.prog 12 = some (.val (.int .u64 0)) := by kernel_rfl
@[simp] theorem bld12 : isBld @Tryz.prog 12 = false := by kernel_rfl
@[simp] theorem sz13 : szOf @Tryz.prog 13 = 2 := by kernel_rfl
@[simp] theorem zd13 : zeroD @Tryz.prog 13 = some [.val (.string ⟨#[]⟩), .val (.int .u64 0)] := by kernel_rfl
@[simp] theorem ze13 : zeroElem @Tryz.prog 13 = some (.agg [.val (.string ⟨#[]⟩), .val (.int .u64 0)]) := by kernel_rfl
@[simp] theorem bld13 : isBld @Tryz.prog 13 = false := by kernel_rfl
@[simp] theorem places13 : placesOf @Tryz.prog 13 = some [(0, 1), (1, 1)] := by kernel_rfl
@[simp] theorem sz14 : szOf @Tryz.prog 14 = 2 := by kernel_rfl
@[simp] theorem zd14 : zeroD @Tryz.prog 14 = some [.val (.string ⟨#[]⟩), .val (.int .u64 0)] := by kernel_rfl
@[simp] theorem ze14 : zeroElem @Tryz.prog 14 = some (.agg [.val (.string ⟨#[]⟩), .val (.int .u64 0)]) := by kernel_rfl
@[simp] theorem bld14 : isBld @Tryz.prog 14 = false := by kernel_rfl
@[simp] theorem places14 : placesOf @Tryz.prog 14 = some [(0, 1), (1, 1)] := by kernel_rfl
@[simp] theorem sz15 : szOf @Tryz.prog 15 = 1 := by kernel_rfl
@[simp] theorem zd15 : zeroD @Tryz.prog 15 = some [.val (.pointer none)] := by kernel_rfl
@[simp] theorem ze15 : zeroElem @Tryz.prog 15 = some (.val (.pointer none)) := by kernel_rfl
@[simp] theorem bld15 : isBld @Tryz.prog 15 = false := by kernel_rfl
@[simp] theorem sz16 : szOf @Tryz.prog 16 = 1 := by kernel_rfl
@[simp] theorem zd16 : zeroD @Tryz.prog 16 = some [.val (.pointer none)] := by kernel_rfl
@[simp] theorem ze16 : zeroElem @Tryz.prog 16 = some (.val (.pointer none)) := by kernel_rfl
@[simp] theorem bld16 : isBld @Tryz.prog 16 = false := by kernel_rfl
@[simp] theorem sz17 : szOf @Tryz.prog 17 = 1 := by kernel_rfl
@[simp] theorem zd17 : zeroD @Tryz.prog 17 = some [.val (.pointer none)] := by kernel_rfl
@[simp] theorem ze17 : zeroElem @Tryz.prog 17 = some (.val (.pointer none)) := by kernel_rfl
@[simp] theorem bld17 : isBld @Tryz.prog 17 = false := by kernel_rfl
@[simp] theorem sz18 : szOf @Tryz.prog 18 = 1 := by kernel_rfl
@[simp] theorem zd18 : zeroD @Tryz.prog 18 = some [.val (.pointer none)] := by kernel_rfl
@[simp] theorem ze18 : zeroElem @Tryz.prog 18 = some (.agg [.val (.pointer none)]) := by kernel_rfl
@[simp] theorem bld18 : isBld @Tryz.prog 18 = false := by kernel_rfl
@[simp] theorem places18 : placesOf @Tryz.prog 18 = some [(0, 1)] := by kernel_rfl
@[simp] theorem sz19 : szOf @Tryz.prog 19 = 1 := by kernel_rfl
@[simp] theorem zd19 : zeroD @Tryz.prog 19 = some [.val (.pointer none)] := by kernel_rfl
@[simp] theorem ze19 : zeroElem @Tryz.prog 19 = some (.agg [.val (.pointer none)]) := by kernel_rfl
@[simp] theorem bld19 : isBld @Tryz.prog 19 = false := by kernel_rfl
@[simp] theorem places19 : placesOf @Tryz.prog 19 = some [(0, 1)] := by kernel_rfl
@[simp] theorem sz20 : szOf @Tryz.prog 20 = 1 := by kernel_rfl
@[simp] theorem zd20 : zeroD @Tryz.prog 20 = some [.val .nilIface] := by kernel_rfl
@[simp] theorem ze20 : zeroElem @Tryz.prog 20 = some (.val .nilIface) := by kernel_rfl
@[simp] theorem bld20 : isBld @Tryz.prog 20 = false := by kernel_rfl
@[simp] theorem sz21 : szOf @Tryz.prog 21 = 1 := by kernel_rfl
@[simp] theorem zd21 : zeroD @Tryz.prog 21 = some [.val (.int .i32 0)] := by kernel_rfl
@[simp] theorem ze21 : zeroElem @Tryz.prog 21 = some (.val (.int .i32 0)) := by kernel_rfl
@[simp] theorem bld21 : isBld @Tryz.prog 21 = false := by kernel_rfl
@[simp] theorem sz22 : szOf @Tryz.prog 22 = 1 := by kernel_rfl
@[simp] theorem zd22 : zeroD @Tryz.prog 22 = some [.slice 1 0 []] := by kernel_rfl
@[simp] theorem ze22 : zeroElem @Tryz.prog 22 = some (.slice 1 0 []) := by kernel_rfl
@[simp] theorem bld22 : isBld @Tryz.prog 22 = false := by kernel_rfl
@[simp] theorem sz23 : szOf @Tryz.prog 23 = 3 := by kernel_rfl
@[simp] theorem zd23 : zeroD @Tryz.prog 23 = some [.val (.string ⟨#[]⟩), .val (.string ⟨#[]⟩), .slice 1 0 []] := by kernel_rfl
@[simp] theorem ze23 : zeroElem @Tryz.prog 23 = some (.agg [.val (.string ⟨#[]⟩), .val (.string ⟨#[]⟩), .slice 1 0 []]) := by kernel_rfl
@[simp] theorem bld23 : isBld @Tryz.prog 23 = false := by kernel_rfl
@[simp] theorem places23 : placesOf @Tryz.prog 23 = some [(0, 1), (1, 1), (2, 1)] := by kernel_rfl
@[simp] theorem sz24 : szOf @Tryz.prog 24 = 3 := by kernel_rfl
@[simp] theorem zd24 : zeroD @Tryz.prog 24 = some [.val (.string ⟨#[]⟩), .val (.string ⟨#[]⟩), .slice 1 0 []] := by kernel_rfl
@[simp] theorem ze24 : zeroElem @Tryz.prog 24 = some (.agg [.val (.string ⟨#[]⟩), .val (.string ⟨#[]⟩), .slice 1 0 []]) := by kernel_rfl
@[simp] theorem bld24 : isBld @Tryz.prog 24 = false := by kernel_rfl
@[simp] theorem places24 : placesOf @Tryz.prog 24 = some [(0, 1), (1, 1), (2, 1)] := by kernel_rfl
@[simp] theorem sz25 : szOf @Tryz.prog 25 = 1 := by kernel_rfl
@[simp] theorem zd25 : zeroD @Tryz.prog 25 = some [.val .nilFunc] := by kernel_rfl
@[simp] theorem ze25 : zeroElem @Tryz.prog 25 = some (.val .nilFunc) := by kernel_rfl
@[simp] theorem bld25 : isBld @Tryz.prog 25 = false := by kernel_rfl
@[simp] theorem sz27 : szOf @Tryz.prog 27 = 1 := by kernel_rfl
@[simp] theorem zd27 : zeroD @Tryz.prog 27 = some [.val .nilFunc] := by kernel_rfl
@[simp] theorem ze27 : zeroElem @Tryz.prog 27 = some (.val .nilFunc) := by kernel_rfl
@[simp] theorem bld27 : isBld @Tryz.prog 27 = false := by kernel_rfl
@[simp] theorem sz28 : szOf @Tryz.prog 28 = 1 := by kernel_rfl
@[simp] theorem zd28 : zeroD @Tryz.prog 28 = some [.val .nilFunc] := by kernel_rfl
@[simp] theorem ze28 : zeroElem @Tryz.prog 28 = some (.val .nilFunc) := by kernel_rfl
@[simp] theorem bld28 : isBld @Tryz.prog 28 = false := by kernel_rfl
@[simp] theorem sz29 : szOf @Tryz.prog 29 = 3 := by kernel_rfl
@[simp] theorem zd29 : zeroD @Tryz.prog 29 = some [.val (.string ⟨#[]⟩), .val (.string ⟨#[]⟩), .slice 1 0 []] := by kernel_rfl
@[simp] theorem ze29 : zeroElem @Tryz.prog 29 = some (.agg [.val (.string ⟨#[]⟩), .val (.string ⟨#[]⟩), .slice 1 0 []]) := by kernel_rfl
@[simp] theorem bld29 : isBld @Tryz.prog 29 = false := by kernel_rfl
@[simp] theorem places29 : placesOf @Tryz.prog 29 = some [(0, 1), (1, 1), (2, 1)] := by kernel_rfl
@[simp] theorem sz30 : szOf @Tryz.prog 30 = 1 := by kernel_rfl
@[simp] theorem zd30 : zeroD @Tryz.prog 30 = some [.val .nilFunc] := by kernel_rfl
@[simp] theorem ze30 : zeroElem @Tryz.prog 30 = some (.val .nilFunc) := by kernel_rfl
@[simp] theorem bld30 : isBld @Tryz.prog 30 = false := by kernel_rfl
@[simp] theorem sz32 : szOf @Tryz.prog 32 = 1 := by kernel_rfl
@[simp] theorem zd32 : zeroD @Tryz.prog 32 = some [.val .nilFunc] := by kernel_rfl
@[simp] theorem ze32 : zeroElem @Tryz.prog 32 = some (.val .nilFunc) := by kernel_rfl
@[simp] theorem bld32 : isBld @Tryz.prog 32 = false := by kernel_rfl
@[simp] theorem sz34 : szOf @Tryz.prog 34 = 1 := by kernel_rfl
@[simp] theorem zd34 : zeroD @Tryz.prog 34 = some [.val .nilFunc] := by kernel_rfl
@[simp] theorem ze34 : zeroElem @Tryz.prog 34 = some (.val .nilFunc) := by kernel_rfl
@[simp] theorem bld34 : isBld @Tryz.prog 34 = false := by kernel_rfl
@[simp] theorem sz35 : szOf @Tryz.prog 35 = 1 := by kernel_rfl
@[simp] theorem zd35 : zeroD @Tryz.prog 35 = some [.val .nilFunc] := by kernel_rfl
@[simp] theorem ze35 : zeroElem @Tryz.prog 35 = some (.val .nilFunc) := by kernel_rfl
@[simp] theorem bld35 : isBld @Tryz.prog 35 = false := by kernel_rfl
@[simp] theorem sz36 : szOf @Tryz.prog 36 = 1 := by kernel_rfl
@[simp] theorem zd36 : zeroD @Tryz.prog 36 = some [.val .nilFunc] := by kernel_rfl
@[simp] theorem ze36 : zeroElem @Tryz.prog 36 = some (.val .nilFunc) := by kernel_rfl
@[simp] theorem bld36 : isBld @Tryz.prog 36 = false := by kernel_rfl
@[simp] theorem sz37 : szOf @Tryz.prog 37 = 2 := by kernel_rfl
@[simp] theorem zd37 : zeroD @Tryz.prog 37 = some [.val (.string ⟨#[]⟩), .val (.bool false)] := by kernel_rfl
@[simp] theorem ze37 : zeroElem @Tryz.prog 37 = some (.agg [.val (.string ⟨#[]⟩), .val (.bool false)]) := by kernel_rfl
@[simp] theorem bld37 : isBld @Tryz.prog 37 = false := by kernel_rfl
@[simp] theorem places37 : placesOf @Tryz.prog 37 = some [(0, 1), (1, 1)] := by kernel_rfl
@[simp] theorem sz38 : szOf @Tryz.prog 38 = 2 := by kernel_rfl
@[simp] theorem zd38 : zeroD @Tryz.prog 38 = some [.val (.string ⟨#[]⟩), .val (.bool false)] := by kernel_rfl
@[simp] theorem ze38 : zeroElem @Tryz.prog 38 = some (.agg [.val (.string ⟨#[]⟩), .val (.bool false)]) := by kernel_rfl
@[simp] theorem bld38 : isBld @Tryz.prog 38 = false := by kernel_rfl
@[simp] theorem places38 : placesOf @Tryz.prog 38 = some [(0, 1), (1, 1)] := by kernel_rfl
@[simp] theorem sz39 : szOf @Tryz.prog 39 = 1 := by kernel_rfl
@[simp] theorem zd39 : zeroD @Tryz.prog 39 = some [.val .nilFunc] := by kernel_rfl
@[simp] theorem ze39 : zeroElem @Tryz.prog 39 = some (.val .nilFunc) := by kernel_rfl
@[simp] theorem bld39 : isBld @Tryz.prog 39 = false := by kernel_rfl
@[simp] theorem sz40 : szOf @Tryz.prog 40 = 1 := by kernel_rfl
@[simp] theorem zd40 : zeroD @Tryz.prog 40 = some [.val .nilIface] := by kernel_rfl
@[simp] theorem ze40 : zeroElem @Tryz.prog 40 = some (.val .nilIface) := by kernel_rfl
@[simp] theorem bld40 : isBld @Tryz.prog 40 = false := by kernel_rfl
@[simp] theorem sz41 : szOf @Tryz.prog 41 = 1 := by kernel_rfl
@[simp] theorem zd41 : zeroD @Tryz.prog 41 = some [.val .nilIface] := by kernel_rfl
@[simp] theorem ze41 : zeroElem @Tryz.prog 41 = some (.val .nilIface) := by kernel_rfl
@[simp] theorem bld41 : isBld @Tryz.prog 41 = false := by kernel_rfl
@[simp] theorem sz43 : szOf @Tryz.prog 43 = 1 := by kernel_rfl
@[simp] theorem zd43 : zeroD @Tryz.prog 43 = some [.val .nilFunc] := by kernel_rfl
@[simp] theorem ze43 : zeroElem @Tryz.prog 43 = some (.val .nilFunc) := by kernel_rfl
@[simp] theorem bld43 : isBld @Tryz.prog 43 = false := by kernel_rfl
@[simp] theorem sz44 : szOf @Tryz.prog 44 = 1 := by kernel_rfl
@[simp] theorem zd44 : zeroD @Tryz.prog 44 = some [.val .nilFunc] := by kernel_rfl
@[simp] theorem ze44 : zeroElem @Tryz.prog 44 = some (.val .nilFunc) := by kernel_rfl
@[simp] theorem bld44 : isBld @Tryz.prog 44 = false := by kernel_rfl
@[simp] theorem sz45 : szOf @Tryz.prog 45 = 1 := by kernel_rfl
@[simp] theorem zd45 : zeroD @Tryz.prog 45 = some [.val .nilFunc] := by kernel_rfl
@[simp] theorem ze45 : zeroElem @Tryz.prog 45 = some (.val .nilFunc) := by kernel_rfl
@[simp] theorem bld45 : isBld @Tryz.prog 45 = false := by kernel_rfl
@[simp] theorem sz46 : szOf @Tryz.prog 46 = 1 := by kernel_rfl
@[simp] theorem zd46 : zeroD @Tryz.prog 46 = some [.val .nilFunc] := by kernel_rfl
@[simp] theorem ze46 : zeroElem @Tryz.prog 46 = some (.val .nilFunc) := by kernel_rfl
@[simp] theorem bld46 : isBld @Tryz.prog 46 = false := by kernel_rfl
@[simp] theorem sz47 : szOf @Tryz.prog 47 = 1 := by kernel_rfl
@[simp] theorem zd47 : zeroD @Tryz.prog 47 = some [.val .nilFunc] := by kernel_rfl
@[simp] theorem ze47 : zeroElem @Tryz.prog 47 = some (.val .nilFunc) := by kernel_rfl
@[simp] theorem bld47 : isBld @Tryz.prog 47 = false := by kernel_rfl
@[simp] theorem sz48 : szOf @Tryz.prog 48 = 1 := by kernel_rfl
@[simp] theorem zd48 : zeroD @Tryz.prog 48 = some [.val .nilFunc] := by kernel_rfl
@[simp] theorem ze48 : zeroElem @Tryz.prog 48 = some (.val .nilFunc) := by kernel_rfl
@[simp] theorem bld48 : isBld @Tryz.prog 48 = false := by kernel_rfl
@[simp] theorem sz49 : szOf @Tryz.prog 49 = 1 := by kernel_rfl
@[simp] theorem zd49 : zeroD @Tryz.prog 49 = some [.val .nilFunc] := by kernel_rfl
@[simp] theorem ze49 : zeroElem @Tryz.prog 49 = some (.val .nilFunc) := by kernel_rfl
@[simp] theorem bld49 : isBld @Tryz.prog 49 = false := by kernel_rfl
@[simp] theorem sz50 : szOf @Tryz.prog 50 = 1 := by kernel_rfl
@[simp] theorem zd50 : zeroD @Tryz.prog 50 = some [.val .nilFunc] := by kernel_rfl
@[simp] theorem ze50 : zeroElem @Tryz.prog 50 = some (.val .nilFunc) := by kernel_rfl
@[simp] theorem bld50 : isBld @Tryz.prog 50 = false := by kernel_rfl
@[simp] theorem sz51 : szOf @Tryz.prog 51 = 1 := by kernel_rfl
@[simp] theorem zd51 : zeroD @Tryz.prog 51 = some [.val .nilFunc] := by kernel_rfl
@[simp] theorem ze51 : zeroElem @Tryz.prog 51 = some (.val .nilFunc) := by kernel_rfl
@[simp] theorem bld51 : isBld @Tryz.prog 51 = false := by kernel_rfl
@[simp] theorem sz52 : szOf @Tryz.prog 52 = 1 := by kernel_rfl
@[simp] theorem zd52 : zeroD @Tryz.prog 52 = some [.val .nilFunc] := by kernel_rfl
@[simp] theorem ze52 : zeroElem @Tryz.prog 52 = some (.val .nilFunc) := by kernel_rfl
@[simp] theorem bld52 : isBld @Tryz.prog 52 = false := by kernel_rfl
@[simp] theorem sz53 : szOf @Tryz.prog 53 = 1 := by kernel_rfl
@[simp] theorem zd53 : zeroD @Tryz.prog 53 = some [.val .nilFunc] := by kernel_rfl
@[simp] theorem ze53 : zeroElem @Tryz.prog 53 = some (.val .nilFunc) := by kernel_rfl
@[simp] theorem bld53 : isBld @Tryz.prog 53 = false := by kernel_rfl
@[simp] theorem sz54 : szOf @Tryz.prog 54 = 1 := by kernel_rfl
@[simp] theorem sz56 : szOf @Tryz.prog 56 = 1 := by kernel_rfl
@[simp] theorem zd56 : zeroD @Tryz.prog 56 = some [.val .nilFunc] := by kernel_rfl
@[simp] theorem ze56 : zeroElem @Tryz.prog 56 = some (.val .nilFunc) := by kernel_rfl
@[simp] theorem bld56 : isBld @Tryz.prog 56 = false := by kernel_rfl
@[simp] theorem sz57 : szOf @Tryz.prog 57 = 1 := by kernel_rfl
@[simp] theorem zd57 : zeroD @Tryz.prog 57 = some [.val .nilFunc] := by kernel_rfl
@[simp] theorem ze57 : zeroElem @Tryz.prog 57 = some (.val .nilFunc) := by kernel_rfl
@[simp] theorem bld57 : isBld @Tryz.prog 57 = false := by kernel_rfl
@[simp] theorem sz58 : szOf @Tryz.prog 58 = 1 := by kernel_rfl
@[simp] theorem zd58 : zeroD @Tryz.prog 58 = some [.slice 1 0 []] := by kernel_rfl
@[simp] theorem ze58 : zeroElem @Tryz.prog 58 = some (.slice 1 0 []) := by kernel_rfl
@[simp] theorem bld58 : isBld @Tryz.prog 58 = false := by kernel_rfl
@[simp] theorem sz60 : szOf @Tryz.prog 60 = 1 := by kernel_rfl
@[simp] theorem zd60 : zeroD @Tryz.prog 60 = some [.val .nilFunc] := by kernel_rfl
@[simp] theorem ze60 : zeroElem @Tryz.prog 60 = some (.val .nilFunc) := by kernel_rfl
@[simp] theorem bld60 : isBld @Tryz.prog 60 = false := by kernel_rfl
@[simp] theorem sz61 : szOf @Tryz.prog 61 = 6 := by kernel_rfl
@[simp] theorem zd61 : zeroD @Tryz.prog 61 = some [.val (.string ⟨#[]⟩), .val (.string ⟨#[]⟩), .val (.string ⟨#[]⟩), .val (.int .i64 0), .slice 1 0 [], .slice 1 0 []] := by kernel_rfl
@[simp] theorem ze61 : zeroElem @Tryz.prog 61 = some (.agg [.val (.string ⟨#[]⟩), .val (.string ⟨#[]⟩), .val (.string ⟨#[]⟩), .val (.int .i64 0), .slice 1 0 [], .slice 1 0 []]) := by kernel_rfl
@[simp] theorem bld61 : isBld @Tryz.prog 61 = false := by kernel_rfl
@[simp] theorem places61 : placesOf @Tryz.prog 61 = some [(0, 1), (1, 1), (2, 1), (3, 1), (4, 1), (5, 1)] := by kernel_rfl
@[simp] theorem sz62 : szOf @Tryz.prog 62 = 6 := by kernel_rfl
@[simp] theorem zd62 : zeroD @Tryz.prog 62 = some [.val (.string ⟨#[]⟩), .val (.string ⟨#[]⟩), .val (.string ⟨#[]⟩), .val (.int .i64 0), .slice 1 0 [], .slice 1 0 []] := by kernel_rfl
@[simp] theorem ze62 : zeroElem @Tryz.prog 62 = some (.agg [.val (.string ⟨#[]⟩), .val (.string ⟨#[]⟩), .val (.string ⟨#[]⟩), .val (.int .i64 0), .slice 1 0 [], .slice 1 0 []]) := by kernel_rfl
@[simp] theorem bld62 : isBld @Tryz.prog 62 = false := by kernel_rfl
@[simp] theorem places62 : placesOf @Tryz.prog 62 = some [(0, 1), (1, 1), (2, 1), (3, 1), (4, 1), (5, 1)] := by kernel_rfl
@[simp] theorem sz64 : szOf @Tryz.prog 64 = 1 := by kernel_rfl
@[simp] theorem zd64 : zeroD @Tryz.prog 64 = some [.val .nilFunc] := by kernel_rfl
@[simp] theorem ze64 : zeroElem @Tryz.prog 64 = some (.val .nilFunc) := by kernel_rfl
@[simp] theorem bld64 : isBld @Tryz.prog 64 = false := by kernel_rfl
@[simp] theorem sz65 : szOf @Tryz.prog 65 = 1 := by kernel_rfl
@[simp] theorem zd65 : zeroD @Tryz.prog 65 = some [.val .nilFunc] := by kernel_rfl
@[simp] theorem ze65 : zeroElem @Tryz.prog 65 = some (.val .nilFunc) := by kernel_rfl
@[simp] theorem bld65 : isBld @Tryz.prog 65 = false := by kernel_rfl
@[simp] theorem sz66 : szOf @Tryz.prog 66 = 1 := by kernel_rfl
@[simp] theorem zd66 : zeroD @Tryz.prog 66 = some [.val .nilFunc] := by kernel_rfl
@[simp] theorem ze66 : zeroElem @Tryz.prog 66 = some (.val .nilFunc) := by kernel_rfl
@[simp] theorem bld66 : isBld @Tryz.prog 66 = false := by kernel_rfl
@[simp] theorem sz67 : szOf @Tryz.prog 67 = 0 := by kernel_rfl
@[simp] theorem zd67 : zeroD @Tryz.prog 67 = some [] := by kernel_rfl
@[simp] theorem places67 : placesOf @Tryz.prog 67 = some [] := by kernel_rfl
@[simp] theorem sz68 : szOf @Tryz.prog 68 = 0 := by kernel_rfl
@[simp] theorem zd68 : zeroD @Tryz.prog 68 = some [] := by kernel_rfl
@[simp] theorem places68 : placesOf @Tryz.prog 68 = some [] := by kernel_rfl
@[simp] theorem sz69 : szOf @Tryz.prog 69 = 0 := by kernel_rfl
@[simp] theorem zd69 : zeroD @Tryz.prog 69 = some [] := by kernel_rfl
@[simp] theorem places69 : placesOf @Tryz.prog 69 = some [(0, 0)] := by kernel_rfl
@[simp] theorem sz70 : szOf @Tryz.prog 70 = 0 := by kernel_rfl
@[simp] theorem zd70 : zeroD @Tryz.prog 70 = some [] := by kernel_rfl
@[simp] theorem places70 : placesOf @Tryz.prog 70 = some [(0, 0)] := by kernel_rfl
@[simp] theorem sz71 : szOf @Tryz.prog 71 = 0 := by kernel_rfl
@[simp] theorem zd71 : zeroD @Tryz.prog 71 = some [] := by kernel_rfl
@[simp] theorem places71 : placesOf @Tryz.prog 71 = some [(0, 0)] := by kernel_rfl
@[simp] theorem sz72 : szOf @Tryz.prog 72 = 0 := by kernel_rfl
@[simp] theorem zd72 : zeroD @Tryz.prog 72 = some [] := by kernel_rfl
@[simp] theorem places72 : placesOf @Tryz.prog 72 = some [(0, 0)] := by kernel_rfl
@[simp] theorem sz73 : szOf @Tryz.prog 73 = 0 := by kernel_rfl
@[simp] theorem zd73 : zeroD @Tryz.prog 73 = some [] := by kernel_rfl
@[simp] theorem places73 : placesOf @Tryz.prog 73 = some [(0, 0)] := by kernel_rfl
@[simp] theorem sz74 : szOf @Tryz.prog 74 = 0 := by kernel_rfl
@[simp] theorem zd74 : zeroD @Tryz.prog 74 = some [] := by kernel_rfl
@[simp] theorem places74 : placesOf @Tryz.prog 74 = some [(0, 0)] := by kernel_rfl
@[simp] theorem sz75 : szOf @Tryz.prog 75 = 0 := by kernel_rfl
@[simp] theorem zd75 : zeroD @Tryz.prog 75 = some [] := by kernel_rfl
@[simp] theorem places75 : placesOf @Tryz.prog 75 = some [(0, 0)] := by kernel_rfl
@[simp] theorem sz76 : szOf @Tryz.prog 76 = 0 := by kernel_rfl
@[simp] theorem zd76 : zeroD @Tryz.prog 76 = some [] := by kernel_rfl
@[simp] theorem places76 : placesOf @Tryz.prog 76 = some [(0, 0)] := by kernel_rfl
@[simp] theorem sz77 : szOf @Tryz.prog 77 = 0 := by kernel_rfl
@[simp] theorem zd77 : zeroD @Tryz.prog 77 = some [] := by kernel_rfl
@[simp] theorem places77 : placesOf @Tryz.prog 77 = some [(0, 0)] := by kernel_rfl
@[simp] theorem sz78 : szOf @Tryz.prog 78 = 0 := by kernel_rfl
@[simp] theorem zd78 : zeroD @Tryz.prog 78 = some [] := by kernel_rfl
@[simp] theorem places78 : placesOf @Tryz.prog 78 = some [(0, 0)] := by kernel_rfl
@[simp] theorem sz79 : szOf @Tryz.prog 79 = 1 := by kernel_rfl
@[simp] theorem zd79 : zeroD @Tryz.prog 79 = some [.val .nilFunc] := by kernel_rfl
@[simp] theorem ze79 : zeroElem @Tryz.prog 79 = some (.val .nilFunc) := by kernel_rfl
@[simp] theorem bld79 : isBld @Tryz.prog 79 = false := by kernel_rfl
@[simp] theorem sz81 : szOf @Tryz.prog 81 = 1 := by kernel_rfl
@[simp] theorem zd81 : zeroD @Tryz.prog 81 = some [.val .nilFunc] := by kernel_rfl
@[simp] theorem ze81 : zeroElem @Tryz.prog 81 = some (.val .nilFunc) := by kernel_rfl
@[simp] theorem bld81 : isBld @Tryz.prog 81 = false := by kernel_rfl
@[simp] theorem sz82 : szOf @Tryz.prog 82 = 1 := by kernel_rfl
@[simp] theorem zd82 : zeroD @Tryz.prog 82 = some [.val .nilFunc] := by kernel_rfl
@[simp] theorem ze82 : zeroElem @Tryz.prog 82 = some (.val .nilFunc) := by kernel_rfl
@[simp] theorem bld82 : isBld @Tryz.prog 82 = false := by kernel_rfl
@[simp] theorem sz83 : szOf @Tryz.prog 83 = 1 := by kernel_rfl
@[simp] theorem zd83 : zeroD @Tryz.prog 83 = some [.val (.int .u64 0)] := by kernel_rfl
@[simp] theorem ze83 : zeroElem @Tryz.prog 83 = some (.val (.int .u64 0)) := by kernel_rfl
@[simp] theorem bld83 : isBld @Tryz.prog 83 = false := by kernel_rfl
@[simp] theorem sz84 : szOf @Tryz.prog 84 = 1 := by kernel_rfl
@[simp] theorem zd84 : zeroD @Tryz.prog 84 = some [.val .nilFunc] := by kernel_rfl
@[simp] theorem ze84 : zeroElem @Tryz.prog 84 = some (.val .nilFunc) := by kernel_rfl
@[simp] theorem bld84 : isBld @Tryz.prog 84 = false := by kernel_rfl
@[simp] theorem sz85 : szOf @Tryz.prog 85 = 1 := by kernel_rfl
@[simp] theorem zd85 : zeroD @Tryz.prog 85 = some [.val .nilFunc] := by kernel_rfl
@[simp] theorem ze85 : zeroElem @Tryz.prog 85 = some (.val .nilFunc) := by kernel_rfl
@[simp] theorem bld85 : isBld @Tryz.prog 85 = false := by kernel_rfl
@[simp] theorem sz86 : szOf @Tryz.prog 86 = 1 := by kernel_rfl
@[simp] theorem zd86 : zeroD @Tryz.prog 86 = some [.val .nilFunc] := by kernel_rfl
@[simp] theorem ze86 : zeroElem @Tryz.prog 86 = some (.val .nilFunc) := by kernel_rfl
@[simp] theorem bld86 : isBld @Tryz.prog 86 = false := by kernel_rfl
@[simp] theorem sz87 : szOf @Tryz.prog 87 = 1 := by kernel_rfl
@[simp] theorem zd87 : zeroD @Tryz.prog 87 = some [.val (.int .u64 0)] := by kernel_rfl
@[simp] theorem ze87 : zeroElem @Tryz.prog 87 = some (.val (.int .u64 0)) := by kernel_rfl
@[simp] theorem bld87 : isBld @Tryz.prog 87 = false := by kernel_rfl
@[simp] theorem sz88 : szOf @Tryz.prog 88 = 1 := by kernel_rfl
@[simp] theorem zd88 : zeroD @Tryz.prog 88 = some [.val .nilFunc] := by kernel_rfl
@[simp] theorem ze88 : zeroElem @Tryz.prog 88 = some (.val .nilFunc) := by kernel_rfl
@[simp] theorem bld88 : isBld @Tryz.prog 88 = false := by kernel_rfl
@[simp] theorem sz89 : szOf @Tryz.prog 89 = 1 := by kernel_rfl
@[simp] theorem zd89 : zeroD @Tryz.prog 89 = some [.val .nilFunc] := by kernel_rfl
@[simp] theorem ze89 : zeroElem @Tryz.prog 89 = some (.val .nilFunc) := by kernel_rfl
@[simp] theorem bld89 : isBld @Tryz.prog 89 = false := by kernel_rfl
@[simp] theorem sz90 : szOf @Tryz.prog 90 = 1 := by kernel_rfl
@[simp] theorem zd90 : zeroD @Tryz.prog 90 = some [.slice 1 0 []] := by kernel_rfl
@[simp] theorem ze90 : zeroElem @Tryz.prog 90 = some (.slice 1 0 []) := by kernel_rfl
@[simp] theorem bld90 : isBld @Tryz.prog 90 = false := by kernel_rfl
@[simp] theorem sz91 : szOf @Tryz.prog 91 = 1 := by kernel_rfl
@[simp] theorem zd91 : zeroD @Tryz.prog 91 = some [.val .nilFunc] := by kernel_rfl
@[simp] theorem ze91 : zeroElem @Tryz.prog 91 = some (.val .nilFunc) := by kernel_rfl
@[simp] theorem bld91 : isBld @Tryz.prog 91 = false := by kernel_rfl
@[simp] theorem sz92 : szOf @Tryz.prog 92 = 1 := by kernel_rfl
@[simp] theorem zd92 : zeroD @Tryz.prog 92 = some [.slice 1 0 []] := by kernel_rfl
@[simp] theorem ze92 : zeroElem @Tryz.prog 92 = some (.slice 1 0 []) := by kernel_rfl
@[simp] theorem bld92 : isBld @Tryz.prog 92 = false := by kernel_rfl
@[simp] theorem sz93 : szOf @Tryz.prog 93 = 1 := by kernel_rfl
@[simp] theorem zd93 : zeroD @Tryz.prog 93 = some [.val .nilFunc] := by kernel_rfl
@[simp] theorem ze93 : zeroElem @Tryz.prog 93 = some (.val .nilFunc) := by kernel_rfl
@[simp] theorem bld93 : isBld @Tryz.prog 93 = false := by kernel_rfl
@[simp] theorem sz94 : szOf @Tryz.prog 94 = 1 := by kernel_rfl
@[simp] theorem zd94 : zeroD @Tryz.prog 94 = some [.val .nilFunc] := by kernel_rfl
@[simp] theorem ze94 : zeroElem @Tryz.prog 94 = some (.val .nilFunc) := by kernel_rfl
@[simp] theorem bld94 : isBld @Tryz.prog 94 = false := by kernel_rfl
@[simp] theorem sz95 : szOf @Tryz.prog 95 = 1 := by kernel_rfl
@[simp] theorem zd95 : zeroD @Tryz.prog 95 = some [.val .nilFunc] := by kernel_rfl
@[simp] theorem ze95 : zeroElem @Tryz.prog 95 = some (.val .nilFunc) := by kernel_rfl
@[simp] theorem bld95 : isBld @Tryz.prog 95 = false := by kernel_rfl
@[simp] theorem sz96 : szOf @Tryz.prog 96 = 1 := by kernel_rfl
@[simp] theorem zd96 : zeroD @Tryz.prog 96 = some [.val .nilFunc] := by kernel_rfl
@[simp] theorem ze96 : zeroElem @Tryz.prog 96 = some (.val .nilFunc) := by kernel_rfl
@[simp] theorem bld96 : isBld @Tryz.prog 96 = false := by kernel_rfl
@[simp] theorem sz97 : szOf @Tryz.prog 97 = 1 := by kernel_rfl
@[simp] theorem zd97 : zeroD @Tryz.prog 97 = some [.val (.int .u32 0)] := by kernel_rfl
@[simp] theorem ze97 : zeroElem @Tryz.prog 97 = some (.val (.int .u32 0)) := by kernel_rfl
@[simp] theorem bld97 : isBld @Tryz.prog 97 = false := by kernel_rfl
@[simp] theorem sz99 : szOf @Tryz.prog 99 = 1 := by kernel_rfl
@[simp] theorem zd99 : zeroD @Tryz.prog 99 = some [.val .nilFunc] := by kernel_rfl
@[simp] theorem ze99 : zeroElem @Tryz.prog 99 = some (.val .nilFunc) := by kernel_rfl
@[simp] theorem bld99 : isBld @Tryz.prog 99 = false := by kernel_rfl
@[simp] theorem sz100 : szOf @Tryz.prog 100 = 1 := by kernel_rfl
@[simp] theorem zd100 : zeroD @Tryz.prog 100 = some [.val .nilFunc] := by kernel_rfl
@[simp] theorem ze100 : zeroElem @Tryz.prog 100 = some (.val .nilFunc) := by kernel_rfl
@[simp] theorem bld100 : isBld @Tryz.prog 100 = false := by kernel_rfl
@[simp] theorem sz101 : szOf @Tryz.prog 101 = 4 := by kernel_rfl
@[simp] theorem zd101 : zeroD @Tryz.prog 101 = some [.val (.pointer none), .val (.pointer none), .val (.pointer none), .val (.string ⟨#[]⟩)] := by kernel_rfl
@[simp] theorem ze101 : zeroElem @Tryz.prog 101 = some (.agg [.val (.pointer none), .val (.pointer none), .val (.pointer none), .val (.string ⟨#[]⟩)]) := by kernel_rfl
@[simp] theorem bld101 : isBld @Tryz.prog 101 = false := by kernel_rfl
@[simp] theorem places101 : placesOf @Tryz.prog 101 = some [(0, 1), (1, 1), (2, 1), (3, 1)] := by kernel_rfl
@[simp] theorem sz102 : szOf @Tryz.prog 102 = 4 := by kernel_rfl
@[simp] theorem zd102 : zeroD @Tryz.prog 102 = some [.val (.pointer none), .val (.pointer none), .val (.pointer none), .val (.string ⟨#[]⟩)] := by kernel_rfl
@[simp] theorem ze102 : zeroElem @Tryz.prog 102 = some (.agg [.val (.pointer none), .val (.pointer none), .val (.pointer none), .val (.string ⟨#[]⟩)]) := by kernel_rfl
@[simp] theorem bld102 : isBld @Tryz.prog 102 = false := by kernel_rfl
@[simp] theorem places102 : placesOf @Tryz.prog 102 = some [(0, 1), (1, 1), (2, 1), (3, 1)] := by kernel_rfl
@[simp] theorem sz103 : szOf @Tryz.prog 103 = 0 := by kernel_rfl
@[simp] theorem zd103 : zeroD @Tryz.prog 103 = some [] := by kernel_rfl
@[simp] theorem sz104 : szOf @Tryz.prog 104 = 0 := by kernel_rfl
@[simp] theorem zd104 : zeroD @Tryz.prog 104 = some [] := by kernel_rfl
@[simp] theorem places104 : placesOf @Tryz.prog 104 = some [(0, 0)] := by kernel_rfl
@[simp] theorem sz105 : szOf @Tryz.prog 105 = 0 := by kernel_rfl
@[simp] theorem zd105 : zeroD @Tryz.prog 105 = some [] := by kernel_rfl
@[simp] theorem places105 : placesOf @Tryz.prog 105 = some [(0, 0)] := by kernel_rfl
@[simp] theorem sz106 : szOf @Tryz.prog 106 = 1 := by kernel_rfl
@[simp] theorem zd106 : zeroD @Tryz.prog 106 = some [.val .nilFunc] := by kernel_rfl
@[simp] theorem ze106 : zeroElem @Tryz.prog 106 = some (.val .nilFunc) := by kernel_rfl
@[simp] theorem bld106 : isBld @Tryz.prog 106 = false := by kernel_rfl
@[simp] theorem sz107 : szOf @Tryz.prog 107 = 1 := by kernel_rfl
@[simp] theorem zd107 : zeroD @Tryz.prog 107 = some [.val (.int .u8 0)] := by kernel_rfl
@[simp] theorem ze107 : zeroElem @Tryz.prog 107 = some (.val (.int .u8 0)) := by kernel_rfl
@[simp] theorem bld107 : isBld @Tryz.prog 107 = false := by kernel_rfl
@[simp] theorem sz108 : szOf @Tryz.prog 108 = 1 := by kernel_rfl
@[simp] theorem zd108 : zeroD @Tryz.prog 108 = some [.val (.int .u8 0)] := by kernel_rfl
@[simp] theorem ze108 : zeroElem @Tryz.prog 108 = some (.val (.int .u8 0)) := by kernel_rfl
@[simp] theorem bld108 : isBld @Tryz.prog 108 = false := by kernel_rfl
@[simp] theorem sz109 : szOf @Tryz.prog 109 = 1 := by kernel_rfl
@[simp] theorem zd109 : zeroD @Tryz.prog 109 = some [.val .nilFunc] := by kernel_rfl
@[simp] theorem ze109 : zeroElem @Tryz.prog 109 = some (.val .nilFunc) := by kernel_rfl
@[simp] theorem bld109 : isBld @Tryz.prog 109 = false := by kernel_rfl
@[simp] theorem sz110 : szOf @Tryz.prog 110 = 1 := by kernel_rfl
@[simp] theorem zd110 : zeroD @Tryz.prog 110 = some [.val (.pointer none)] := by kernel_rfl
@[simp] theorem ze110 : zeroElem @Tryz.prog 110 = some (.val (.pointer none)) := by kernel_rfl
@[simp] theorem bld110 : isBld @Tryz.prog 110 = false := by kernel_rfl
@[simp] theorem sz111 : szOf @Tryz.prog 111 = 1 := by kernel_rfl
@[simp] theorem zd111 : zeroD @Tryz.prog 111 = some [.val (.int .i32 0)] := by kernel_rfl
@[simp] theorem ze111 : zeroElem @Tryz.prog 111 = some (.val (.int .i32 0)) := by kernel_rfl
@[simp] theorem bld111 : isBld @Tryz.prog 111 = false := by kernel_rfl
@[simp] theorem sz112 : szOf @Tryz.prog 112 = 1 := by kernel_rfl
@[simp] theorem zd112 : zeroD @Tryz.prog 112 = some [.val (.int .i32 0)] := by kernel_rfl
@[simp] theorem ze112 : zeroElem @Tryz.prog 112 = some (.val (.int .i32 0)) := by kernel_rfl
@[simp] theorem bld112 : isBld @Tryz.prog 112 = false := by kernel_rfl
@[simp] theorem sz113 : szOf @Tryz.prog 113 = 11 := by kernel_rfl
@[simp] theorem zd113 : zeroD @Tryz.prog 113 = some [.val (.int .u64 0), .val (.int .u64 0), .val (.int .u32 0), .val (.int .u8 0), .val (.int .u8 0), .val (.int .u8 0), .val (.int .u8 0), .val .nilFunc, .val (.pointer none), .val (.int .i32 0), .val (.int .i32 0)] := by kernel_rfl
@[simp] theorem ze113 : zeroElem @Tryz.prog 113 = some (.agg [.val (.int .u64 0), .val (.int .u64 0), .val (.int .u32 0), .val (.int .u8 0), .val (.int .u8 0), .val (.int .u8 0), .val (.int .u8 0), .val .nilFunc, .val (.pointer none), .val (.int .i32 0), .val (.int .i32 0)]) := by kernel_rfl
@[simp] theorem bld113 : isBld @Tryz.prog 113 = false := by kernel_rfl
@[simp] theorem places113 : placesOf @Tryz.prog 113 = some [(0, 1), (1, 1), (2, 1), (3, 1), (4, 1), (5, 1), (6, 1), (7, 1), (8, 1), (9, 1), (10, 1)] := by kernel_rfl
@[simp] theorem sz114 : szOf @Tryz.prog 114 = 11 := by kernel_rfl
@[simp] theorem zd114 : zeroD @Tryz.prog 114 = some [.val (.int .u64 0), .val (.int .u64 0), .val (.int .u32 0), .val (.int .u8 0), .val (.int .u8 0), .val (.int .u8 0), .val (.int .u8 0), .val .nilFunc, .val (.pointer none), .val (.int .i32 0), .val (.int .i32 0)] := by kernel_rfl
@[simp] theorem ze114 : zeroElem @Tryz.prog 114 = some (.agg [.val (.int .u64 0), .val (.int .u64 0), .val (.int .u32 0), .val (.int .u8 0), .val (.int .u8 0), .val (.int .u8 0), .val (.int .u8 0), .val .nilFunc, .val (.pointer none), .val (.int .i32 0), .val (.int .i32 0)]) := by kernel_rfl
@[simp] theorem bld114 : isBld @Tryz.prog 114 = false := by kernel_rfl
@[simp] theorem places114 : placesOf @Tryz.prog 114 = some [(0, 1), (1, 1), (2, 1), (3, 1), (4, 1), (5, 1), (6, 1), (7, 1), (8, 1), (9, 1), (10, 1)] := by kernel_rfl
@[simp] theorem sz115 : szOf @Tryz.prog 115 = 1 := by kernel_rfl
@[simp] theorem zd115 : zeroD @Tryz.prog 115 = some [.val (.pointer none)] := by kernel_rfl
@[simp] theorem ze115 : zeroElem @Tryz.prog 115 = some (.val (.pointer none)) := by kernel_rfl
@[simp] theorem bld115 : isBld @Tryz.prog 115 = false := by kernel_rfl
@[simp] theorem sz116 : szOf @Tryz.prog 116 = 2 := by kernel_rfl
@[simp] theorem zd116 : zeroD @Tryz.prog 116 = some [.val (.pointer none), .slice 1 0 []] := by kernel_rfl
@[simp] theorem ze116 : zeroElem @Tryz.prog 116 = some (.agg [.val (.pointer none), .slice 1 0 []]) := by kernel_rfl
@[simp] theorem bld116 : isBld @Tryz.prog 116 = false := by kernel_rfl
@[simp] theorem places116 : placesOf @Tryz.prog 116 = some [(0, 1), (1, 1)] := by kernel_rfl
@[simp] theorem sz117 : szOf @Tryz.prog 117 = 2 := by kernel_rfl
@[simp] theorem zd117 : zeroD @Tryz.prog 117 = some [.val (.pointer none), .slice 1 0 []] := by kernel_rfl
@[simp] theorem ze117 : zeroElem @Tryz.prog 117 = some (.agg [.val (.pointer none), .slice 1 0 []]) := by kernel_rfl
@[simp] theorem bld117 : isBld @Tryz.prog 117 = true := by kernel_rfl
@[simp] theorem places117 : placesOf @Tryz.prog 117 = some [(0, 1), (1, 1)] := by kernel_rfl
@[simp] theorem sz118 : szOf @Tryz.prog 118 = 1 := by kernel_rfl
@[simp] theorem zd118 : zeroD @Tryz.prog 118 = some [.val .nilFunc] := by kernel_rfl
@[simp] theorem ze118 : zeroElem @Tryz.prog 118 = some (.val .nilFunc) := by kernel_rfl
@[simp] theorem bld118 : isBld @Tryz.prog 118 = false := by kernel_rfl
@[simp] theorem sz119 : szOf @Tryz.prog 119 = 1 := by kernel_rfl
@[simp] theorem zd119 : zeroD @Tryz.prog 119 = some [.val .nilIface] := by kernel_rfl
@[simp] theorem ze119 : zeroElem @Tryz.prog 119 = some (.val .nilIface) := by kernel_rfl
@[simp] theorem bld119 : isBld @Tryz.prog 119 = false := by kernel_rfl
@[simp] theorem sz120 : szOf @Tryz.prog 120 = 1 := by kernel_rfl
@[simp] theorem zd120 : zeroD @Tryz.prog 120 = some [.val .nilIface] := by kernel_rfl
@[simp] theorem ze120 : zeroElem @Tryz.prog 120 = some (.val .nilIface) := by kernel_rfl
@[simp] theorem bld120 : isBld @Tryz.prog 120 = false := by kernel_rfl
@[simp] theorem sz122 : szOf @Tryz.prog 122 = 1 := by kernel_rfl
@[simp] theorem zd122 : zeroD @Tryz.prog 122 = some [.val .nilFunc] := by kernel_rfl
@[simp] theorem ze122 : zeroElem @Tryz.prog 122 = some (.val .nilFunc) := by kernel_rfl
@[simp] theorem bld122 : isBld @Tryz.prog 122 = false := by kernel_rfl
@[simp] theorem sz123 : szOf @Tryz.prog 123 = 1 := by kernel_rfl
@[simp] theorem zd123 : zeroD @Tryz.prog 123 = some [.val .nilFunc] := by kernel_rfl
@[simp] theorem ze123 : zeroElem @Tryz.prog 123 = some (.val .nilFunc) := by kernel_rfl
@[simp] theorem bld123 : isBld @Tryz.prog 123 = false := by kernel_rfl
@[simp] theorem sz125 : szOf @Tryz.prog 125 = 1 := by kernel_rfl
@[simp] theorem zd125 : zeroD @Tryz.prog 125 = some [.val .nilFunc] := by kernel_rfl
@[simp] theorem ze125 : zeroElem @Tryz.prog 125 = some (.val .nilFunc) := by kernel_rfl
@[simp] theorem bld125 : isBld @Tryz.prog 125 = false := by kernel_rfl
@[simp] theorem sz126 : szOf @Tryz.prog 126 = 1 := by kernel_rfl
@[simp] theorem zd126 : zeroD @Tryz.prog 126 = some [.val (.pointer none)] := by kernel_rfl
@[simp] theorem ze126 : zeroElem @Tryz.prog 126 = some (.val (.pointer none)) := by kernel_rfl
@[simp] theorem bld126 : isBld @Tryz.prog 126 = false := by kernel_rfl
@[simp] theorem sz127 : szOf @Tryz.prog 127 = 1 := by kernel_rfl
@[simp] theorem zd127 : zeroD @Tryz.prog 127 = some [.val .nilFunc] := by kernel_rfl
@[simp] theorem ze127 : zeroElem @Tryz.prog 127 = some (.val .nilFunc) := by kernel_rfl
@[simp] theorem bld127 : isBld @Tryz.prog 127 = false := by kernel_rfl
@[simp] theorem sz128 : szOf @Tryz.prog 128 = 3 := by kernel_rfl
@[simp] theorem zd128 : zeroD @Tryz.prog 128 = some [.val (.bool false), .val (.int .i64 0), .val (.string ⟨#[]⟩)] := by kernel_rfl
@[simp] theorem ze128 : zeroElem @Tryz.prog 128 = some (.agg [.val (.bool false), .val (.int .i64 0), .val (.string ⟨#[]⟩)]) := by kernel_rfl
@[simp] theorem bld128 : isBld @Tryz.prog 128 = false := by kernel_rfl
@[simp] theorem places128 : placesOf @Tryz.prog 128 = some [(0, 1), (1, 1), (2, 1)] := by kernel_rfl
@[simp] theorem sz129 : szOf @Tryz.prog 129 = 3 := by kernel_rfl
@[simp] theorem zd129 : zeroD @Tryz.prog 129 = some [.val (.bool false), .val (.int .i64 0), .val (.string ⟨#[]⟩)] := by kernel_rfl
@[simp] theorem ze129 : zeroElem @Tryz.prog 129 = some (.agg [.val (.bool false), .val (.int .i64 0), .val (.string ⟨#[]⟩)]) := by kernel_rfl
@[simp] theorem bld129 : isBld @Tryz.prog 129 = false := by kernel_rfl
@[simp] theorem places129 : placesOf @Tryz.prog 129 = some [(0, 1), (1, 1), (2, 1)] := by kernel_rfl
@[simp] theorem sz131 : szOf @Tryz.prog 131 = 1 := by kernel_rfl
@[simp] theorem zd131 : zeroD @Tryz.prog 131 = some [.val .nilFunc] := by kernel_rfl
@[simp] theorem ze131 : zeroElem @Tryz.prog 131 = some (.val .nilFunc) := by kernel_rfl
@[simp] theorem bld131 : isBld @Tryz.prog 131 = false := by kernel_rfl
@[simp] theorem sz132 : szOf @Tryz.prog 132 = 1 := by kernel_rfl
@[simp] theorem zd132 : zeroD @Tryz.prog 132 = some [.val .nilFunc] := by kernel_rfl
@[simp] theorem ze132 : zeroElem @Tryz.prog 132 = some (.val .nilFunc) := by kernel_rfl
@[simp] theorem bld132 : isBld @Tryz.prog 132 = false := by kernel_rfl
@[simp] theorem sz133 : szOf @Tryz.prog 133 = 1 := by kernel_rfl
@[simp] theorem zd133 : zeroD @Tryz.prog 133 = some [.val .nilFunc] := by kernel_rfl
@[simp] theorem ze133 : zeroElem @Tryz.prog 133 = some (.val .nilFunc) := by kernel_rfl
@[simp] theorem bld133 : isBld @Tryz.prog 133 = false := by kernel_rfl
@[simp] theorem sz134 : szOf @Tryz.prog 134 = 256 := by kernel_rfl
@[simp] theorem sz135 : szOf @Tryz.prog 135 = 256 := by kernel_rfl
@[simp] theorem sz137 : szOf @Tryz.prog 137 = 1 := by kernel_rfl
@[simp] theorem zd137 : zeroD @Tryz.prog 137 = some [.val .nilFunc] := by kernel_rfl
@[simp] theorem ze137 : zeroElem @Tryz.prog 137 = some (.val .nilFunc) := by kernel_rfl
@[simp] theorem bld137 : isBld @Tryz.prog 137 = false := by kernel_rfl
@[simp] theorem sz138 : szOf @Tryz.prog 138 = 1 := by kernel_rfl
@[simp] theorem zd138 : zeroD @Tryz.prog 138 = some [.val .nilFunc] := by kernel_rfl
@[simp] theorem ze138 : zeroElem @Tryz.prog 138 = some (.val .nilFunc) := by kernel_rfl
@[simp] theorem bld138 : isBld @Tryz.prog 138 = false := by kernel_rfl
@[simp] theorem sz139 : szOf @Tryz.prog 139 = 1 := by kernel_rfl
@[simp] theorem zd139 : zeroD @Tryz.prog 139 = some [.val (.pointer none)] := by kernel_rfl
@[simp] theorem ze139 : zeroElem @Tryz.prog 139 = some (.val (.pointer none)) := by kernel_rfl
@[simp] theorem bld139 : isBld @Tryz.prog 139 = false := by kernel_rfl
@[simp] theorem sz140 : szOf @Tryz.prog 140 = 1 := by kernel_rfl
@[simp] theorem zd140 : zeroD @Tryz.prog 140 = some [.val .nilFunc] := by kernel_rfl
@[simp] theorem ze140 : zeroElem @Tryz.prog 140 = some (.val .nilFunc) := by kernel_rfl
@[simp] theorem bld140 : isBld @Tryz.prog 140 = false := by kernel_rfl
@[simp] theorem sz141 : szOf @Tryz.prog 141 = 1 := by kernel_rfl
@[simp] theorem zd141 : zeroD @Tryz.prog 141 = some [.val .nilFunc] := by kernel_rfl
@[simp] theorem ze141 : zeroElem @Tryz.prog 141 = some (.val .nilFunc) := by kernel_rfl
@[simp] theorem bld141 : isBld @Tryz.prog 141 = false := by kernel_rfl
@[simp] theorem sz142 : szOf @Tryz.prog 142 = 256 := by kernel_rfl
@[simp] theorem sz143 : szOf @Tryz.prog 143 = 2 := by kernel_rfl
@[simp] theorem zd143 : zeroD @Tryz.prog 143 = some [.val (.int .u8 0), .val (.int .u8 0)] := by kernel_rfl
@[simp] theorem ze143 : zeroElem @Tryz.prog 143 = some (.agg [.val (.int .u8 0), .val (.int .u8 0)]) := by kernel_rfl
@[simp] theorem bld143 : isBld @Tryz.prog 143 = false := by kernel_rfl
@[simp] theorem places143 : placesOf @Tryz.prog 143 = some [(0, 1), (1, 1)] := by kernel_rfl
@[simp] theorem sz144 : szOf @Tryz.prog 144 = 2 := by kernel_rfl
@[simp] theorem zd144 : zeroD @Tryz.prog 144 = some [.val (.int .u8 0), .val (.int .u8 0)] := by kernel_rfl
@[simp] theorem ze144 : zeroElem @Tryz.prog 144 = some (.agg [.val (.int .u8 0), .val (.int .u8 0)]) := by kernel_rfl
@[simp] theorem bld144 : isBld @Tryz.prog 144 = false := by kernel_rfl
@[simp] theorem places144 : placesOf @Tryz.prog 144 = some [(0, 1), (1, 1)] := by kernel_rfl
@[simp] theorem sz145 : szOf @Tryz.prog 145 = 32 := by kernel_rfl
@[simp] theorem zd145 : zeroD @Tryz.prog 145 = some [.val (.int .u8 0), .val (.int .u8 0), .val (.int .u8 0), .val (.int .u8 0), .val (.int .u8 0), .val (.int .u8 0), .val (.int .u8 0), .val (.int .u8 0), .val (.int .u8 0), .val (.int .u8 0), .val (.int .u8 0), .val (.int .u8 0), .val (.int .u8 0), .val (.int .u8 0), .val (.int .u8 0), .val (.int .u8 0), .val (.int .u8 0), .val (.int .u8 0), .val (.int .u8 0), .val (.int .u8 0), .val (.int .u8 0), .val (.int .u8 0), .val (.int .u8 0), .val (.int .u8 0), .val (.int .u8 0), .val (.int .u8 0), .val (.int .u8 0), .val (.int .u8 0), .val (.int .u8 0), .val (.int .u8 0), .val (.int .u8 0), .val (.int .u8 0)] := by kernel_rfl
@[simp] theorem ze145 : zeroElem @Tryz.prog 145 = some (.agg [.val (.int .u8 0), .val (.int .u8 0), .val (.int .u8 0), .val (.int .u8 0), .val (.int .u8 0), .val (.int .u8 0), .val (.int .u8 0), .val (.int .u8 0), .val (.int .u8 0), .val (.int .u8 0), .val (.int .u8 0), .val (.int .u8 0), .val (.int .u8 0), .val (.int .u8 0), .val (.int .u8 0), .val (.int .u8 0), .val (.int .u8 0), .val (.int .u8 0), .val (.int .u8 0), .val (.int .u8 0), .val (.int .u8 0), .val (.int .u8 0), .val (.int .u8 0), .val (.int .u8 0), .val (.int .u8 0), .val (.int .u8 0), .val (.int .u8 0), .val (.int .u8 0), .val (.int .u8 0), .val (.int .u8 0), .val (.int .u8 0), .val (.int .u8 0)]) := by kernel_rfl
@[simp] theorem bld145 : isBld @Tryz.prog 145 = false := by kernel_rfl
@[simp] theorem sz146 : szOf @Tryz.prog 146 = 1 := by kernel_rfl
@[simp] theorem zd146 : zeroD @Tryz.prog 146 = some [.val .nilFunc] := by kernel_rfl
@[simp] theorem ze146 : zeroElem @Tryz.prog 146 = some (.val .nilFunc) := by kernel_rfl
@[simp] theorem bld146 : isBld @Tryz.prog 146 = false := by kernel_rfl
@[simp] theorem sz147 : szOf @Tryz.prog 147 = 1 := by kernel_rfl
@[simp] theorem zd147 : zeroD @Tryz.prog 147 = some [.val .nilFunc] := by kernel_rfl
@[simp] theorem ze147 : zeroElem @Tryz.prog 147 = some (.val .nilFunc) := by kernel_rfl
@[simp] theorem bld147 : isBld @Tryz.prog 147 = false := by kernel_rfl
@[simp] theorem sz148 : szOf @Tryz.prog 148 = 1 := by kernel_rfl
@[simp] theorem zd148 : zeroD @Tryz.prog 148 = some [.val .nilFunc] := by kernel_rfl
@[simp] theorem ze148 : zeroElem @Tryz.prog 148 = some (.val .nilFunc) := by kernel_rfl
@[simp] theorem bld148 : isBld @Tryz.prog 148 = false := by kernel_rfl
@[simp] theorem sz149 : szOf @Tryz.prog 149 = 1 := by kernel_rfl
@[simp] theorem zd149 : zeroD @Tryz.prog 149 = some [.val .nilFunc] := by kernel_rfl
@[simp] theorem ze149 : zeroElem @Tryz.prog 149 = some (.val .nilFunc) := by kernel_rfl
@[simp] theorem bld149 : isBld @Tryz.prog 149 = false := by kernel_rfl
@[simp] theorem sz151 : szOf @Tryz.prog 151 = 1 := by kernel_rfl
@[simp] theorem zd151 : zeroD @Tryz.prog 151 = some [.val .nilFunc] := by kernel_rfl
@[simp] theorem ze151 : zeroElem @Tryz.prog 151 = some (.val .nilFunc) := by kernel_rfl
@[simp] theorem bld151 : isBld @Tryz.prog 151 = false := by kernel_rfl
@[simp] theorem sz152 : szOf @Tryz.prog 152 = 1 := by kernel_rfl
@[simp] theorem zd152 : zeroD @Tryz.prog 152 = some [.val .nilFunc] := by kernel_rfl
@[simp] theorem ze152 : zeroElem @Tryz.prog 152 = some (.val .nilFunc) := by kernel_rfl
@[simp] theorem bld152 : isBld @Tryz.prog 152 = false := by kernel_rfl
@[simp] theorem sz153 : szOf @Tryz.prog 153 = 16 := by kernel_rfl
@[simp] theorem zd153 : zeroD @Tryz.prog 153 = some [.val (.int .u8 0), .val (.int .u8 0), .val (.int .u8 0), .val (.int .u8 0), .val (.int .u8 0), .val (.int .u8 0), .val (.int .u8 0), .val (.int .u8 0), .val (.int .u8 0), .val (.int .u8 0), .val (.int .u8 0), .val (.int .u8 0), .val (.int .u8 0), .val (.int .u8 0), .val (.int .u8 0), .val (.int .u8 0)] := by kernel_rfl
@[simp] theorem ze153 : zeroElem @Tryz.prog 153 = some (.agg [.val (.int .u8 0), .val (.int .u8 0), .val (.int .u8 0), .val (.int .u8 0), .val (.int .u8 0), .val (.int .u8 0), .val (.int .u8 0), .val (.int .u8 0), .val (.int .u8 0), .val (.int .u8 0), .val (.int .u8 0), .val (.int .u8 0), .val (.int .u8 0), .val (.int .u8 0), .val (.int .u8 0), .val (.int .u8 0)]) := by kernel_rfl
@[simp] theorem bld153 : isBld @Tryz.prog 153 = false := by kernel_rfl
@[simp] theorem sz154 : szOf @Tryz.prog 154 = 1 := by kernel_rfl
@[simp] theorem zd154 : zeroD @Tryz.prog 154 = some [.val .nilFunc] := by kernel_rfl
@[simp] theorem ze154 : zeroElem @Tryz.prog 154 = some (.val .nilFunc) := by kernel_rfl
@[simp] theorem bld154 : isBld @Tryz.prog 154 = false := by kernel_rfl
@[simp] theorem sz155 : szOf @Tryz.prog 155 = 6 := by kernel_rfl
@[simp] theorem zd155 : zeroD @Tryz.prog 155 = some [.val (.string ⟨#[]⟩), .val (.string ⟨#[]⟩), .val (.string ⟨#[]⟩), .val (.int .i64 0), .slice 1 0 [], .slice 1 0 []] := by kernel_rfl
@[simp] theorem ze155 : zeroElem @Tryz.prog 155 = some (.agg [.val (.string ⟨#[]⟩), .val (.string ⟨#[]⟩), .val (.string ⟨#[]⟩), .val (.int .i64 0), .slice 1 0 [], .slice 1 0 []]) := by kernel_rfl
@[simp] theorem bld155 : isBld @Tryz.prog 155 = false := by kernel_rfl
@[simp] theorem places155 : placesOf @Tryz.prog 155 = some [(0, 1), (1, 1), (2, 1), (3, 1), (4, 1), (5, 1)] := by kernel_rfl
@[simp] theorem sz157 : szOf @Tryz.prog 157 = 1 := by kernel_rfl
@[simp] theorem zd157 : zeroD @Tryz.prog 157 = some [.val .nilFunc] := by kernel_rfl
@[simp] theorem ze157 : zeroElem @Tryz.prog 157 = some (.val .nilFunc) := by kernel_rfl
@[simp] theorem bld157 : isBld @Tryz.prog 157 = false := by kernel_rfl
@[simp] theorem sz158 : szOf @Tryz.prog 158 = 1 := by kernel_rfl
@[simp] theorem zd158 : zeroD @Tryz.prog 158 = some [.slice 1 0 []] := by kernel_rfl
@[simp] theorem ze158 : zeroElem @Tryz.prog 158 = some (.slice 1 0 []) := by kernel_rfl
@[simp] theorem bld158 : isBld @Tryz.prog 158 = false := by kernel_rfl
@[simp] theorem sz159 : szOf @Tryz.prog 159 = 1 := by kernel_rfl
@[simp] theorem zd159 : zeroD @Tryz.prog 159 = some [.val .nilFunc] := by kernel_rfl
@[simp] theorem ze159 : zeroElem @Tryz.prog 159 = some (.val .nilFunc) := by kernel_rfl
@[simp] theorem bld159 : isBld @Tryz.prog 159 = false := by kernel_rfl
@[simp] theorem sz160 : szOf @Tryz.prog 160 = 60 := by kernel_rfl
@[simp] theorem zd160 : zeroD @Tryz.prog 160 = some [.val (.string ⟨#[]⟩), .val (.string ⟨#[]⟩), .val (.string ⟨#[]⟩), .val (.int .i64 0), .slice 1 0 [], .slice 1 0 [], .val (.string ⟨#[]⟩), .val (.string ⟨#[]⟩), .val (.string ⟨#[]⟩), .val (.int .i64 0), .slice 1 0 [], .slice 1 0 [], .val (.string ⟨#[]⟩), .val (.string ⟨#[]⟩), .val (.string ⟨#[]⟩), .val (.int .i64 0), .slice 1 0 [], .slice 1 0 [], .val (.string ⟨#[]⟩), .val (.string ⟨#[]⟩), .val (.string ⟨#[]⟩), .val (.int .i64 0), .slice 1 0 [], .slice 1 0 [], .val (.string ⟨#[]⟩), .val (.string ⟨#[]⟩), .val (.string ⟨#[]⟩), .val (.int .i64 0), .slice 1 0 [], .slice 1 0 [], .val (.string ⟨#[]⟩), .val (.string ⟨#[]⟩), .val (.string ⟨#[]⟩), .val (.int .i64 0), .slice 1 0 [], .slice 1 0 [], .val (.string ⟨#[]⟩), .val (.string ⟨#[]⟩), .val (.string ⟨#[]⟩), .val (.int .i64 0), .slice 1 0 [], .slice 1 0 [], .val (.string ⟨#[]⟩), .val (.string ⟨#[]⟩), .val (.string ⟨#[]⟩), .val (.int .i64 0), .slice 1 0 [], .slice 1 0 [], .val (.string ⟨#[]⟩), .val (.string ⟨#[]⟩), .val (.string ⟨#[]⟩), .val (.int .i64 0), .slice 1 0 [], .slice 1 0 [], .val (.string ⟨#[]⟩), .val (.string ⟨#[]⟩), .val (.string ⟨#[]⟩), .val (.int .i64 0), .slice 1 0 [], .slice 1 0 []] := by kernel_rfl
@[simp] theorem ze160 : zeroElem @Tryz.prog 160 = some (.agg [.val (.string ⟨#[]⟩), .val (.string ⟨#[]⟩), .val (.string ⟨#[]⟩), .val (.int .i64 0), .slice 1 0 [], .slice 1 0 [], .val (.string ⟨#[]⟩), .val (.string ⟨#[]⟩), .val (.string ⟨#[]⟩), .val (.int .i64 0), .slice 1 0 [], .slice 1 0 [], .val (.string ⟨#[]⟩), .val (.string ⟨#[]⟩), .val (.string ⟨#[]⟩), .val (.int .i64 0), .slice 1 0 [], .slice 1 0 [], .val (.string ⟨#[]⟩), .val (.string ⟨#[]⟩), .val (.string ⟨#[]⟩), .val (.int .i64 0), .slice 1 0 [], .slice 1 0 [], .val (.string ⟨#[]⟩), .val (.string ⟨#[]⟩), .val (.string ⟨#[]⟩), .val (.int .i64 0), .slice 1 0 [], .slice 1 0 [], .val (.string ⟨#[]⟩), .val (.string ⟨#[]⟩), .val (.string ⟨#[]⟩), .val (.int .i64 0), .slice 1 0 [], .slice 1 0 [], .val (.string ⟨#[]⟩), .val (.string ⟨#[]⟩), .val (.string ⟨#[]⟩), .val (.int .i64 0), .slice 1 0 [], .slice 1 0 [], .val (.string ⟨#[]⟩), .val (.string ⟨#[]⟩), .val (.string ⟨#[]⟩), .val (.int .i64 0), .slice 1 0 [], .slice 1 0 [], .val (.string ⟨#[]⟩), .val (.string ⟨#[]⟩), .val (.string ⟨#[]⟩), .val (.int .i64 0), .slice 1 0 [], .slice 1 0 [], .val (.string ⟨#[]⟩), .val (.string ⟨#[]⟩), .val (.string ⟨#[]⟩), .val (.int .i64 0), .slice 1 0 [], .slice 1 0 []]) := by kernel_rfl
@[simp] theorem bld160 : isBld @Tryz.prog 160 = false := by kernel_rfl
@[simp] theorem sz161 : szOf @Tryz.prog 161 = 1 := by kernel_rfl
@[simp] theorem zd161 : zeroD @Tryz.prog 161 = some [.val .nilFunc] := by kernel_rfl
@[simp] theorem ze161 : zeroElem @Tryz.prog 161 = some (.val .nilFunc) := by kernel_rfl
@[simp] theorem bld161 : isBld @Tryz.prog 161 = false := by kernel_rfl
@[simp] theorem sz162 : szOf @Tryz.prog 162 = 1 := by kernel_rfl
@[simp] theorem zd162 : zeroD @Tryz.prog 162 = some [.val .nilFunc] := by kernel_rfl
@[simp] theorem ze162 : zeroElem @Tryz.prog 162 = some (.val .nilFunc) := by kernel_rfl
@[simp] theorem bld162 : isBld @Tryz.prog 162 = false := by kernel_rfl
@[simp] theorem sz163 : szOf @Tryz.prog 163 = 1 := by kernel_rfl
@[simp] theorem zd163 : zeroD @Tryz.prog 163 = some [.val .nilFunc] := by kernel_rfl
@[simp] theorem ze163 : zeroElem @Tryz.prog 163 = some (.val .nilFunc) := by kernel_rfl
@[simp] theorem bld163 : isBld @Tryz.prog 163 = false := by kernel_rfl
@[simp ↓] theorem append22 (s x : D) (H : Heap) : eAppend @Tryz.prog 22 22 s x H = appK 9 16 s (news @Tryz.prog H 9 22 x) H := eAppend_of @Tryz.underlying22 (show @Tryz.prog.info? 9 = some @Tryz.t9 from rfl) (show @Tryz.t9.zero = some _ from rfl) (by kernel_rfl) (by decide) (by decide) (by kernel_rfl) s x H
@[simp ↓] theorem append58 (s x : D) (H : Heap) : eAppend @Tryz.prog 58 58 s x H = appK 3 8 s (news @Tryz.prog H 3 58 x) H := eAppend_of @Tryz.underlying58 (show @Tryz.prog.info? 3 = some @Tryz.t3 from rfl) (show @Tryz.t3.zero = some _ from rfl) (by kernel_rfl) (by decide) (by decide) (by kernel_rfl) s x H
@[simp ↓] theorem append90 (s x : D) (H : Heap) : eAppend @Tryz.prog 90 90 s x H = appK 62 104 s (news @Tryz.prog H 62 90 x) H := eAppend_of @Tryz.underlying90 (show @Tryz.prog.info? 62 = some @Tryz.t62 from rfl) (show @Tryz.t62.zero = some _ from rfl) (by kernel_rfl) (by decide) (by decide) (by kernel_rfl) s x H
@[simp ↓] theorem append92 (s x : D) (H : Heap) : eAppend @Tryz.prog 92 92 s x H = appK 5 1 s (news @Tryz.prog H 5 92 x) H := eAppend_of @Tryz.underlying92 (show @Tryz.prog.info? 5 = some @Tryz.t5 from rfl) (show @Tryz.t5.zero = some _ from rfl) (by kernel_rfl) (by decide) (by decide) (by kernel_rfl) s x H
@[simp ↓] theorem append158 (s x : D) (H : Heap) : eAppend @Tryz.prog 158 158 s x H = appK 155 104 s (news @Tryz.prog H 155 158 x) H := eAppend_of @Tryz.underlying158 (show @Tryz.prog.info? 155 = some @Tryz.t155 from rfl) (show @Tryz.t155.zero = some _ from rfl) (by kernel_rfl) (by decide) (by decide) (by kernel_rfl) s x H
@[simp ↓] theorem append92_9 (s x : D) (H : Heap) : eAppend @Tryz.prog 92 9 s x H = appK 5 1 s (news @Tryz.prog H 5 9 x) H := eAppend_of @Tryz.underlying92 (show @Tryz.prog.info? 5 = some @Tryz.t5 from rfl) (show @Tryz.t5.zero = some _ from rfl) (by kernel_rfl) (by decide) (by decide) (by kernel_rfl) s x H
@[simp ↓] theorem append92_10 (s x : D) (H : Heap) : eAppend @Tryz.prog 92 10 s x H = appK 5 1 s (news @Tryz.prog H 5 10 x) H := eAppend_of @Tryz.underlying92 (show @Tryz.prog.info? 5 = some @Tryz.t5 from rfl) (show @Tryz.t5.zero = some _ from rfl) (by kernel_rfl) (by decide) (by decide) (by kernel_rfl) s x H
@[simp ↓] theorem append92_11 (s x : D) (H : Heap) : eAppend @Tryz.prog 92 11 s x H = appK 5 1 s (news @Tryz.prog H 5 11 x) H := eAppend_of @Tryz.underlying92 (show @Tryz.prog.info? 5 = some @Tryz.t5 from rfl) (show @Tryz.t5.zero = some _ from rfl) (by kernel_rfl) (by decide) (by decide) (by kernel_rfl) s x H
@[simp ↓] theorem make22 (a c : D) (H : Heap) : eMakeSlice @Tryz.prog 22 a c H = mkK 9 16 (.val (.string ⟨#[]⟩)) a c H := eMake_of @Tryz.underlying22 (show @Tryz.prog.info? 9 = some @Tryz.t9 from rfl) ze9 (by kernel_rfl) (by decide) a c H
@[simp ↓] theorem make58 (a c : D) (H : Heap) : eMakeSlice @Tryz.prog 58 a c H = mkK 3 8 (.val (.int .i64 0)) a c H := eMake_of @Tryz.underlying58 (show @Tryz.prog.info? 3 = some @Tryz.t3 from rfl) ze3 (by kernel_rfl) (by decide) a c H
@[simp ↓] theorem make90 (a c : D) (H : Heap) : eMakeSlice @Tryz.prog 90 a c H = mkK 62 104 (.agg [.val (.string ⟨#[]⟩), .val (.string ⟨#[]⟩), .val (.string ⟨#[]⟩), .val (.int .i64 0), .slice 1 0 [], .slice 1 0 []]) a c H := eMake_of @Tryz.underlying90 (show @Tryz.prog.info? 62 = some @Tryz.t62 from rfl) ze62 (by kernel_rfl) (by decide) a c H
@[simp ↓] theorem make92 (a c : D) (H : Heap) : eMakeSlice @Tryz.prog 92 a c H = mkK 5 1 (.val (.int .u8 0)) a c H := eMake_of @Tryz.underlying92 (show @Tryz.prog.info? 5 = some @Tryz.t5 from rfl) ze5 (by kernel_rfl) (by decide) a c H
@[simp ↓] theorem make158 (a c : D) (H : Heap) : eMakeSlice @Tryz.prog 158 a c H = mkK 155 104 (.agg [.val (.string ⟨#[]⟩), .val (.string ⟨#[]⟩), .val (.string ⟨#[]⟩), .val (.int .i64 0), .slice 1 0 [], .slice 1 0 []]) a c H := eMake_of @Tryz.underlying158 (show @Tryz.prog.info? 155 = some @Tryz.t155 from rfl) ze155 (by kernel_rfl) (by decide) a c H
@[simp] theorem lenT9 (s : ByteArray) (H : Heap) : eLen @Tryz.prog 9 (.val (.string s)) H = some (.val (.int .i64 s.data.toList.length)) := by unfold eLen; rw [@Tryz.underlying9]
@[simp] theorem lenT10 (s : ByteArray) (H : Heap) : eLen @Tryz.prog 10 (.val (.string s)) H = some (.val (.int .i64 s.data.toList.length)) := by unfold eLen; rw [@Tryz.underlying10]
@[simp] theorem lenT11 (s : ByteArray) (H : Heap) : eLen @Tryz.prog 11 (.val (.string s)) H = some (.val (.int .i64 s.data.toList.length)) := by unfold eLen; rw [@Tryz.underlying11]
@[simp] theorem lenS22 (g e : Nat) (l : List D) (H : Heap) : eLen @Tryz.prog 22 (.slice g e l) H = some (.val (.int .i64 l.length)) := by unfold eLen; rw [@Tryz.underlying22]
@[simp] theorem lenR22 (i e o m : Nat) (H : Heap) : eLen @Tryz.prog 22 (.row i e o m) H = some (.val (.int .i64 m)) := by unfold eLen; rw [@Tryz.underlying22]
@[simp] theorem lenA22 (i e o m : Nat) (H : Heap) : eLen @Tryz.prog 22 (.arr i e o m) H = some (.val (.int .i64 m)) := by unfold eLen; rw [@Tryz.underlying22]
theorem lenG22 {H : Heap} {x : D} {e : Nat} {l : List D} (h : Grow H x e l) (H2 : Heap) : eLen @Tryz.prog 22 x H2 = some (.val (.int .i64 l.length)) := by rcases h with ⟨rfl, rfl⟩ | ⟨i, _, rfl, _⟩ <;> simp
@[simp] theorem lenS58 (g e : Nat) (l : List D) (H : Heap) : eLen @Tryz.prog 58 (.slice g e l) H = some (.val (.int .i64 l.length)) := by unfold eLen; rw [@Tryz.underlying58]
@[simp] theorem lenR58 (i e o m : Nat) (H : Heap) : eLen @Tryz.prog 58 (.row i e o m) H = some (.val (.int .i64 m)) := by unfold eLen; rw [@Tryz.underlying58]
@[simp] theorem lenA58 (i e o m : Nat) (H : Heap) : eLen @Tryz.prog 58 (.arr i e o m) H = some (.val (.int .i64 m)) := by unfold eLen; rw [@Tryz.underlying58]
theorem lenG58 {H : Heap} {x : D} {e : Nat} {l : List D} (h : Grow H x e l) (H2 : Heap) : eLen @Tryz.prog 58 x H2 = some (.val (.int .i64 l.length)) := by rcases h with ⟨rfl, rfl⟩ | ⟨i, _, rfl, _⟩ <;> simp
@[simp] theorem lenS90 (g e : Nat) (l : List D) (H : Heap) : eLen @Tryz.prog 90 (.slice g e l) H = some (.val (.int .i64 l.length)) := by unfold eLen; rw [@Tryz.underlying90]
@[simp] theorem lenR90 (i e o m : Nat) (H : Heap) : eLen @Tryz.prog 90 (.row i e o m) H = some (.val (.int .i64 m)) := by unfold eLen; rw [@Tryz.underlying90]
@[simp] theorem lenA90 (i e o m : Nat) (H : Heap) : eLen @Tryz.prog 90 (.arr i e o m) H = some (.val (.int .i64 m)) := by unfold eLen; rw [@Tryz.underlying90]
theorem lenG90 {H : Heap} {x : D} {e : Nat} {l : List D} (h : Grow H x e l) (H2 : Heap) : eLen @Tryz.prog 90 x H2 = some (.val (.int .i64 l.length)) := by rcases h with ⟨rfl, rfl⟩ | ⟨i, _, rfl, _⟩ <;> simp
@[simp] theorem lenS92 (g e : Nat) (l : List D) (H : Heap) : eLen @Tryz.prog 92 (.slice g e l) H = some (.val (.int .i64 l.length)) := by unfold eLen; rw [@Tryz.underlying92]
@[simp] theorem lenR92 (i e o m : Nat) (H : Heap) : eLen @Tryz.prog 92 (.row i e o m) H = some (.val (.int .i64 m)) := by unfold eLen; rw [@Tryz.underlying92]
@[simp] theorem lenA92 (i e o m : Nat) (H : Heap) : eLen @Tryz.prog 92 (.arr i e o m) H = some (.val (.int .i64 m)) := by unfold eLen; rw [@Tryz.underlying92]
theorem lenG92 {H : Heap} {x : D} {e : Nat} {l : List D} (h : Grow H x e l) (H2 : Heap) : eLen @Tryz.prog 92 x H2 = some (.val (.int .i64 l.length)) := by rcases h with ⟨rfl, rfl⟩ | ⟨i, _, rfl, _⟩ <;> simp
@[simp] theorem lenY103 (x : D) (H : Heap) : (eLen @Tryz.prog 103 x H).isSome = (eLen @Tryz.prog 103 x H).isSome := rfl
@[simp] theorem lenY134 (x : D) (H : Heap) : (eLen @Tryz.prog 134 x H).isSome = (eLen @Tryz.prog 134 x H).isSome := rfl
@[simp] theorem lenY135 (x : D) (H : Heap) : (eLen @Tryz.prog 135 x H).isSome = (eLen @Tryz.prog 135 x H).isSome := rfl
@[simp] theorem lenY142 (x : D) (H : Heap) : (eLen @Tryz.prog 142 x H).isSome = (eLen @Tryz.prog 142 x H).isSome := rfl
@[simp] theorem lenY145 (x : D) (H : Heap) : (eLen @Tryz.prog 145 x H).isSome = (eLen @Tryz.prog 145 x H).isSome := rfl
@[simp] theorem lenY153 (x : D) (H : Heap) : (eLen @Tryz.prog 153 x H).isSome = (eLen @Tryz.prog 153 x H).isSome := rfl
@[simp] theorem lenS158 (g e : Nat) (l : List D) (H : Heap) : eLen @Tryz.prog 158 (.slice g e l) H = some (.val (.int .i64 l.length)) := by unfold eLen; rw [@Tryz.underlying158]
@[simp] theorem lenR158 (i e o m : Nat) (H : Heap) : eLen @Tryz.prog 158 (.row i e o m) H = some (.val (.int .i64 m)) := by unfold eLen; rw [@Tryz.underlying158]
@[simp] theorem lenA158 (i e o m : Nat) (H : Heap) : eLen @Tryz.prog 158 (.arr i e o m) H = some (.val (.int .i64 m)) := by unfold eLen; rw [@Tryz.underlying158]
theorem lenG158 {H : Heap} {x : D} {e : Nat} {l : List D} (h : Grow H x e l) (H2 : Heap) : eLen @Tryz.prog 158 x H2 = some (.val (.int .i64 l.length)) := by rcases h with ⟨rfl, rfl⟩ | ⟨i, _, rfl, _⟩ <;> simp
@[simp] theorem lenY160 (x : D) (H : Heap) : (eLen @Tryz.prog 160 x H).isSome = (eLen @Tryz.prog 160 x H).isSome := rfl
attribute [-simp] eLen
attribute [simp] mkK eBuildSlice Heap.new_get Heap.put_get
theorem mixedO : @Tryz.prog.follows .mixedOrders = true := by kernel_rfl
end Go.Pv
