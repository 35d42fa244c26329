/- Functions of the program, walked. -/
import Derived.Test.YtmaajijhfpdefaaPwFill
import Derived.Test.YtmaajijhfpdefaaPwDraw
import Derived.Test.YtmaajijhfpdefaaProg
import Derived.KernelRfl
namespace Go.Pw
open Go.Proofs
/-- An attribute of the table. -/
structure AttrT where
  n : ByteArray
  a : ByteArray
  o : ByteArray
  s : Int
  b : Bool
/-- A class of the table. -/
structure ClassT where
  n : ByteArray
  o : ByteArray
  s : ByteArray
  k : Int
  must : List ByteArray
  may : List ByteArray
def AttrT.row (x : AttrT) : D := .agg [.val (.string x.n), .val (.string x.a), .val (.string x.o), .val (.int .i64 x.s), .val (.bool x.b)]
def txD (s : ByteArray) : D := .val (.string s)
def slD : List ByteArray → D
  | [] => .slice 1 0 []
  | s :: l => .slice 0 9 ((s :: l).map txD)
def ClassT.row (x : ClassT) : D := .agg [.val (.string x.n), .val (.string x.o), .val (.string x.s), .val (.int .i64 x.k), slD x.must, slD x.may]
def attrs : List AttrT := [
  ⟨⟨#[111, 98, 106, 101, 99, 116, 67, 108, 97, 115, 115]⟩, ⟨#[]⟩, ⟨#[50, 46, 53, 46, 52, 46, 48]⟩, 9, false⟩,
  ⟨⟨#[99, 110]⟩, ⟨#[99, 111, 109, 109, 111, 110, 78, 97, 109, 101]⟩, ⟨#[50, 46, 53, 46, 52, 46, 51]⟩, 1, false⟩,
  ⟨⟨#[115, 110]⟩, ⟨#[115, 117, 114, 110, 97, 109, 101]⟩, ⟨#[50, 46, 53, 46, 52, 46, 52]⟩, 1, false⟩,
  ⟨⟨#[115, 101, 114, 105, 97, 108, 78, 117, 109, 98, 101, 114]⟩, ⟨#[]⟩, ⟨#[50, 46, 53, 46, 52, 46, 53]⟩, 2, false⟩,
  ⟨⟨#[99]⟩, ⟨#[99, 111, 117, 110, 116, 114, 121, 78, 97, 109, 101]⟩, ⟨#[50, 46, 53, 46, 52, 46, 54]⟩, 1, true⟩,
  ⟨⟨#[111]⟩, ⟨#[111, 114, 103, 97, 110, 105, 122, 97, 116, 105, 111, 110, 78, 97, 109, 101]⟩, ⟨#[50, 46, 53, 46, 52, 46, 49, 48]⟩, 1, false⟩,
  ⟨⟨#[111, 117]⟩, ⟨#[111, 114, 103, 97, 110, 105, 122, 97, 116, 105, 111, 110, 97, 108, 85, 110, 105, 116, 78, 97, 109, 101]⟩, ⟨#[50, 46, 53, 46, 52, 46, 49, 49]⟩, 1, false⟩,
  ⟨⟨#[100, 101, 115, 99, 114, 105, 112, 116, 105, 111, 110]⟩, ⟨#[]⟩, ⟨#[50, 46, 53, 46, 52, 46, 49, 51]⟩, 1, false⟩,
  ⟨⟨#[116, 101, 108, 101, 112, 104, 111, 110, 101, 78, 117, 109, 98, 101, 114]⟩, ⟨#[]⟩, ⟨#[50, 46, 53, 46, 52, 46, 50, 48]⟩, 7, false⟩,
  ⟨⟨#[109, 101, 109, 98, 101, 114]⟩, ⟨#[]⟩, ⟨#[50, 46, 53, 46, 52, 46, 51, 49]⟩, 6, false⟩,
  ⟨⟨#[111, 119, 110, 101, 114]⟩, ⟨#[]⟩, ⟨#[50, 46, 53, 46, 52, 46, 51, 50]⟩, 6, false⟩,
  ⟨⟨#[115, 101, 101, 65, 108, 115, 111]⟩, ⟨#[]⟩, ⟨#[50, 46, 53, 46, 52, 46, 51, 52]⟩, 6, false⟩,
  ⟨⟨#[117, 115, 101, 114, 80, 97, 115, 115, 119, 111, 114, 100]⟩, ⟨#[]⟩, ⟨#[50, 46, 53, 46, 52, 46, 51, 53]⟩, 5, false⟩,
  ⟨⟨#[103, 105, 118, 101, 110, 78, 97, 109, 101]⟩, ⟨#[]⟩, ⟨#[50, 46, 53, 46, 52, 46, 52, 50]⟩, 1, false⟩,
  ⟨⟨#[117, 105, 100]⟩, ⟨#[117, 115, 101, 114, 105, 100]⟩, ⟨#[48, 46, 57, 46, 50, 51, 52, 50, 46, 49, 57, 50, 48, 48, 51, 48, 48, 46, 49, 48, 48, 46, 49, 46, 49]⟩, 1, false⟩,
  ⟨⟨#[109, 97, 105, 108]⟩, ⟨#[]⟩, ⟨#[48, 46, 57, 46, 50, 51, 52, 50, 46, 49, 57, 50, 48, 48, 51, 48, 48, 46, 49, 48, 48, 46, 49, 46, 51]⟩, 1, false⟩,
  ⟨⟨#[100, 99]⟩, ⟨#[100, 111, 109, 97, 105, 110, 67, 111, 109, 112, 111, 110, 101, 110, 116]⟩, ⟨#[48, 46, 57, 46, 50, 51, 52, 50, 46, 49, 57, 50, 48, 48, 51, 48, 48, 46, 49, 48, 48, 46, 49, 46, 50, 53]⟩, 1, true⟩,
  ⟨⟨#[101, 109, 112, 108, 111, 121, 101, 101, 78, 117, 109, 98, 101, 114]⟩, ⟨#[]⟩, ⟨#[50, 46, 49, 54, 46, 56, 52, 48, 46, 49, 46, 49, 49, 51, 55, 51, 48, 46, 51, 46, 49, 46, 51]⟩, 3, true⟩,
  ⟨⟨#[101, 110, 97, 98, 108, 101, 100]⟩, ⟨#[]⟩, ⟨#[49, 46, 51, 46, 54, 46, 49, 46, 52, 46, 49, 46, 57, 57, 57, 57, 57, 46, 49]⟩, 4, true⟩,
  ⟨⟨#[119, 101, 105, 103, 104, 116]⟩, ⟨#[]⟩, ⟨#[49, 46, 51, 46, 54, 46, 49, 46, 52, 46, 49, 46, 57, 57, 57, 57, 57, 46, 50]⟩, 8, true⟩]
def classes : List ClassT := [
  ⟨⟨#[116, 111, 112]⟩, ⟨#[50, 46, 53, 46, 54, 46, 48]⟩, ⟨#[]⟩, 0, [⟨#[111, 98, 106, 101, 99, 116, 67, 108, 97, 115, 115]⟩], []⟩,
  ⟨⟨#[99, 111, 117, 110, 116, 114, 121]⟩, ⟨#[50, 46, 53, 46, 54, 46, 50]⟩, ⟨#[116, 111, 112]⟩, 1, [⟨#[99]⟩], [⟨#[100, 101, 115, 99, 114, 105, 112, 116, 105, 111, 110]⟩]⟩,
  ⟨⟨#[111, 114, 103, 97, 110, 105, 122, 97, 116, 105, 111, 110]⟩, ⟨#[50, 46, 53, 46, 54, 46, 52]⟩, ⟨#[116, 111, 112]⟩, 1, [⟨#[111]⟩], [⟨#[100, 101, 115, 99, 114, 105, 112, 116, 105, 111, 110]⟩, ⟨#[116, 101, 108, 101, 112, 104, 111, 110, 101, 78, 117, 109, 98, 101, 114]⟩]⟩,
  ⟨⟨#[111, 114, 103, 97, 110, 105, 122, 97, 116, 105, 111, 110, 97, 108, 85, 110, 105, 116]⟩, ⟨#[50, 46, 53, 46, 54, 46, 53]⟩, ⟨#[116, 111, 112]⟩, 1, [⟨#[111, 117]⟩], [⟨#[100, 101, 115, 99, 114, 105, 112, 116, 105, 111, 110]⟩, ⟨#[115, 101, 101, 65, 108, 115, 111]⟩, ⟨#[116, 101, 108, 101, 112, 104, 111, 110, 101, 78, 117, 109, 98, 101, 114]⟩]⟩,
  ⟨⟨#[112, 101, 114, 115, 111, 110]⟩, ⟨#[50, 46, 53, 46, 54, 46, 54]⟩, ⟨#[116, 111, 112]⟩, 1, [⟨#[99, 110]⟩, ⟨#[115, 110]⟩], [⟨#[100, 101, 115, 99, 114, 105, 112, 116, 105, 111, 110]⟩, ⟨#[115, 101, 101, 65, 108, 115, 111]⟩, ⟨#[116, 101, 108, 101, 112, 104, 111, 110, 101, 78, 117, 109, 98, 101, 114]⟩, ⟨#[117, 115, 101, 114, 80, 97, 115, 115, 119, 111, 114, 100]⟩]⟩,
  ⟨⟨#[105, 110, 101, 116, 79, 114, 103, 80, 101, 114, 115, 111, 110]⟩, ⟨#[50, 46, 49, 54, 46, 56, 52, 48, 46, 49, 46, 49, 49, 51, 55, 51, 48, 46, 51, 46, 50, 46, 50]⟩, ⟨#[112, 101, 114, 115, 111, 110]⟩, 1, [], [⟨#[101, 109, 112, 108, 111, 121, 101, 101, 78, 117, 109, 98, 101, 114]⟩, ⟨#[103, 105, 118, 101, 110, 78, 97, 109, 101]⟩, ⟨#[109, 97, 105, 108]⟩, ⟨#[117, 105, 100]⟩]⟩,
  ⟨⟨#[103, 114, 111, 117, 112]⟩, ⟨#[49, 46, 51, 46, 54, 46, 49, 46, 52, 46, 49, 46, 57, 57, 57, 57, 57, 46, 51, 46, 49]⟩, ⟨#[116, 111, 112]⟩, 1, [⟨#[99, 110]⟩], [⟨#[100, 101, 115, 99, 114, 105, 112, 116, 105, 111, 110]⟩, ⟨#[109, 101, 109, 98, 101, 114]⟩, ⟨#[111, 119, 110, 101, 114]⟩, ⟨#[115, 101, 101, 65, 108, 115, 111]⟩]⟩,
  ⟨⟨#[100, 101, 118, 105, 99, 101]⟩, ⟨#[50, 46, 53, 46, 54, 46, 49, 52]⟩, ⟨#[116, 111, 112]⟩, 1, [⟨#[99, 110]⟩], [⟨#[100, 101, 115, 99, 114, 105, 112, 116, 105, 111, 110]⟩, ⟨#[111, 119, 110, 101, 114]⟩, ⟨#[115, 101, 114, 105, 97, 108, 78, 117, 109, 98, 101, 114]⟩, ⟨#[119, 101, 105, 103, 104, 116]⟩]⟩,
  ⟨⟨#[100, 99, 79, 98, 106, 101, 99, 116]⟩, ⟨#[49, 46, 51, 46, 54, 46, 49, 46, 52, 46, 49, 46, 49, 52, 54, 54, 46, 51, 52, 52]⟩, ⟨#[116, 111, 112]⟩, 2, [⟨#[100, 99]⟩], []⟩,
  ⟨⟨#[108, 111, 103, 105, 110]⟩, ⟨#[49, 46, 51, 46, 54, 46, 49, 46, 52, 46, 49, 46, 57, 57, 57, 57, 57, 46, 51, 46, 50]⟩, ⟨#[116, 111, 112]⟩, 2, [], [⟨#[101, 110, 97, 98, 108, 101, 100]⟩, ⟨#[117, 105, 100]⟩, ⟨#[117, 115, 101, 114, 80, 97, 115, 115, 119, 111, 114, 100]⟩]⟩]
attribute [simp] Try.underlying3 Try.underlying4 Try.underlying5 Try.underlying9 Try.underlying23 Try.underlying26 Try.underlying29 Try.underlying31 Try.underlying34 Try.underlying37 Try.underlying39 Try.underlying41 Try.underlying43 Try.underlying62 Try.underlying63
@[simp] theorem sz3 : szOf Try.prog 3 = 1 := by kernel_rfl
@[simp] theorem sz4 : szOf Try.prog 4 = 1 := by kernel_rfl
@[simp] theorem sz9 : szOf Try.prog 9 = 1 := by kernel_rfl
@[simp] theorem sz29 : szOf Try.prog 29 = 1 := by kernel_rfl
@[simp] theorem sz23 : szOf Try.prog 23 = 5 := by kernel_rfl
@[simp] theorem sz26 : szOf Try.prog 26 = 5 := by kernel_rfl
@[simp] theorem sz31 : szOf Try.prog 31 = 6 := by kernel_rfl
@[simp] theorem sz34 : szOf Try.prog 34 = 6 := by kernel_rfl
@[simp] theorem sz62 : szOf Try.prog 62 = 100 := by kernel_rfl
@[simp] theorem sz63 : szOf Try.prog 63 = 60 := by kernel_rfl
def eS : D := .val (.string ⟨#[]⟩)
def zA : List D := [.val (.string ⟨#[]⟩), .val (.string ⟨#[]⟩), .val (.string ⟨#[]⟩), .val (.int .i64 0), .val (.bool false)]
def zC : List D := [.val (.string ⟨#[]⟩), .val (.string ⟨#[]⟩), .val (.string ⟨#[]⟩), .val (.int .i64 0), .slice 1 0 [], .slice 1 0 []]
@[simp] theorem zd9 : zeroD Try.prog 9 = some [.val (.string ⟨#[]⟩)] := by kernel_rfl
@[simp] theorem zd23 : zeroD Try.prog 23 = some [.val (.string ⟨#[]⟩), .val (.string ⟨#[]⟩), .val (.string ⟨#[]⟩), .val (.int .i64 0), .val (.bool false)] := by kernel_rfl
@[simp] theorem zd26 : zeroD Try.prog 26 = some [.val (.string ⟨#[]⟩), .val (.string ⟨#[]⟩), .val (.string ⟨#[]⟩), .val (.int .i64 0), .val (.bool false)] := by kernel_rfl
@[simp] theorem zd31 : zeroD Try.prog 31 = some [.val (.string ⟨#[]⟩), .val (.string ⟨#[]⟩), .val (.string ⟨#[]⟩), .val (.int .i64 0), .slice 1 0 [], .slice 1 0 []] := by kernel_rfl
@[simp] theorem zd34 : zeroD Try.prog 34 = some [.val (.string ⟨#[]⟩), .val (.string ⟨#[]⟩), .val (.string ⟨#[]⟩), .val (.int .i64 0), .slice 1 0 [], .slice 1 0 []] := by kernel_rfl
@[simp] theorem ze23 : zeroElem Try.prog 23 = some (.agg [.val (.string ⟨#[]⟩), .val (.string ⟨#[]⟩), .val (.string ⟨#[]⟩), .val (.int .i64 0), .val (.bool false)]) := by kernel_rfl
@[simp] theorem ze26 : zeroElem Try.prog 26 = some (.agg [.val (.string ⟨#[]⟩), .val (.string ⟨#[]⟩), .val (.string ⟨#[]⟩), .val (.int .i64 0), .val (.bool false)]) := by kernel_rfl
@[simp] theorem ze31 : zeroElem Try.prog 31 = some (.agg [.val (.string ⟨#[]⟩), .val (.string ⟨#[]⟩), .val (.string ⟨#[]⟩), .val (.int .i64 0), .slice 1 0 [], .slice 1 0 []]) := by kernel_rfl
@[simp] theorem ze34 : zeroElem Try.prog 34 = some (.agg [.val (.string ⟨#[]⟩), .val (.string ⟨#[]⟩), .val (.string ⟨#[]⟩), .val (.int .i64 0), .slice 1 0 [], .slice 1 0 []]) := by kernel_rfl
@[simp] theorem pl23 : placesOf Try.prog 23 = some [(0, 1), (1, 1), (2, 1), (3, 1), (4, 1)] := by kernel_rfl
@[simp] theorem pl26 : placesOf Try.prog 26 = some [(0, 1), (1, 1), (2, 1), (3, 1), (4, 1)] := by kernel_rfl
@[simp] theorem pl31 : placesOf Try.prog 31 = some [(0, 1), (1, 1), (2, 1), (3, 1), (4, 1), (5, 1)] := by kernel_rfl
@[simp] theorem pl34 : placesOf Try.prog 34 = some [(0, 1), (1, 1), (2, 1), (3, 1), (4, 1), (5, 1)] := by kernel_rfl
@[simp] theorem pl62 : placesOf Try.prog 62 = none := by kernel_rfl
@[simp] theorem pl63 : placesOf Try.prog 63 = none := by kernel_rfl
def z62 : List D := (List.replicate 20 zA).flatten
def z63 : List D := (List.replicate 10 zC).flatten
@[simp] theorem zd62 : zeroD Try.prog 62 = some z62 := by kernel_rfl
@[simp] theorem zd63 : zeroD Try.prog 63 = some z63 := by kernel_rfl
@[simp] theorem ze62 : zeroElem Try.prog 62 = some (.agg z62) := by kernel_rfl
@[simp] theorem ze63 : zeroElem Try.prog 63 = some (.agg z63) := by kernel_rfl
@[simp] theorem z62len : z62.length = 100 := rfl
@[simp] theorem z63len : z63.length = 60 := rfl
@[simp] theorem z62one : z62.all oneD = true := rfl
@[simp] theorem z63one : z63.all oneD = true := rfl
attribute [simp] fillD fullFrom
attribute [simp high] fillD_all updD_full

theorem Attributes_spec (H : Heap) : PCalls Try.prog 12 [] H fun d H' => d = .slice 0 23 (attrs.map AttrT.row) ∧ H' = H := by
  refine PCalls.freeze (PCalls.of_pwp Try.call12 Try.func12 rfl (by simp [Try.ntmps12]) ?_)
  rw [Try.ntmps12]
  repeat refine seq_k fun K hK => ?_
  refine region_k rfl fun K1 hK1 => ?_
  simp
  refine hK1 _ (hK _ ?_)
  clear hK1 hK K K1
  repeat refine seq_k fun K hK => ?_
  refine region_k rfl fun K1 hK1 => ?_
  simp
  intro i i2 hi
  refine hK1 _ (hK _ ?_)
  clear hK1 hK K K1
  repeat refine seq_k fun K hK => ?_
  refine region_k rfl fun K1 hK1 => ?_
  simp [maxLen]
  refine hK1 _ (hK _ ?_)
  clear hK1 hK K K1
  refine pwp_ret ?_
  simp
  refine ⟨H.put i (some (.cells (flat (attrs.map AttrT.row)))), fun j o h => h, i, _, Heap.put_same _ _ _, _, .arr 23 0 20 (attrs.map AttrT.row) rfl ?_ ?_, rfl, by simpa using put_put_none hi none⟩
  · intro d hd
    obtain ⟨x, _, rfl⟩ := List.mem_map.1 hd
    simp [AttrT.row]
  · rw [List.drop_zero, List.take_of_length_le]
    simp [attrs, AttrT.row]
theorem RefAttributes_spec (H : Heap) : PCalls Try.prog 13 [] H fun d H' => d = .slice 0 26 (attrs.map AttrT.row) ∧ H' = H := by
  refine PCalls.calm 1 (PCalls.of_pwp Try.call13 Try.func13 rfl (by simp [Try.ntmps13]) ?_)
  rw [Try.ntmps13]
  repeat refine seq_k fun K hK => ?_
  refine region_k rfl fun K1 hK1 => ?_
  simp
  refine hK1 _ (hK _ ?_)
  clear hK1 hK K K1
  repeat refine seq_k fun K hK => ?_
  refine region_k rfl fun K1 hK1 => ?_
  simp
  refine bs_slice (by simp; rfl) (by simp) rfl fun g g2 hg => ?_
  simp
  refine hK1 _ (hK _ ?_)
  clear hK1 hK K K1
  refine pwp_ret ?_
  simp only [retPost, resultsD, results1, tupD]
  refine ⟨H, fun j o h => (Ext.refl H).put hg _ j o h, ?_, rfl⟩
  simp [calmN, g2]
  rfl
set_option maxRecDepth 100000 in
theorem Classes_spec (H : Heap) : PCalls Try.prog 14 [] H fun d H' => d = .slice 0 31 (classes.map ClassT.row) ∧ H' = H := by
  refine PCalls.calm 4 (PCalls.freeze (PCalls.of_pwp Try.call14 Try.func14 rfl (by simp [Try.ntmps14]) ?_))
  rw [Try.ntmps14]
  repeat refine seq_k fun K hK => ?_
  refine region_k rfl fun K1 hK1 => ?_
  simp
  refine hK1 _ (hK _ ?_)
  clear hK1 hK K K1
  repeat refine seq_k fun K hK => ?_
  refine region_k rfl fun K1 hK1 => ?_
  simp
  repeat (refine bs_slice Try.underlying29 (by simp) rfl fun g g2 hg => ?_; simp)
  intro i i2 hi
  refine hK1 _ (hK _ ?_)
  clear hK1 hK K K1
  repeat refine seq_k fun K hK => ?_
  refine region_k rfl fun K1 hK1 => ?_
  simp [maxLen]
  refine hK1 _ (hK _ ?_)
  clear hK1 hK K K1
  refine pwp_ret ?_
  simp only [retPost, resultsD, results1, tupD]
  refine freeze_ret (R := fun d H' => calmN 4 d = _ ∧ H' = H) (H := H) (by repeat (first | exact Ext.refl H | refine Ext.put' ?_ (by assumption) _)) hi rfl ?_ ⟨?_, rfl⟩
  · simp
  · simp only [upd_at, calmN, List.map, *, ↓reduceIte, if_true]
    rfl
set_option maxRecDepth 100000 in
theorem RefClasses_spec (H : Heap) : PCalls Try.prog 15 [] H fun d H' => d = .slice 0 34 (classes.map ClassT.row) ∧ H' = H := by
  refine PCalls.calm 4 (PCalls.of_pwp Try.call15 Try.func15 rfl (by simp [Try.ntmps15]) ?_)
  rw [Try.ntmps15]
  repeat refine seq_k fun K hK => ?_
  refine region_k rfl fun K1 hK1 => ?_
  simp
  refine hK1 _ (hK _ ?_)
  clear hK1 hK K K1
  repeat refine seq_k fun K hK => ?_
  refine region_k rfl fun K1 hK1 => ?_
  simp
  repeat (refine bs_slice Try.underlying29 (by simp) rfl fun g g2 hg => ?_; simp)
  refine bs_slice Try.underlying43 (by simp) rfl fun g g2 hg => ?_
  simp
  refine hK1 _ (hK _ ?_)
  clear hK1 hK K K1
  refine pwp_ret ?_
  simp only [retPost, resultsD, results1, tupD]
  refine ⟨H, ?_, ?_, rfl⟩
  · show Ext H _
    repeat (first | exact Ext.refl H | refine Ext.put' ?_ (by assumption) _)
  · simp only [upd_at, calmN, List.map, *, ↓reduceIte, if_true]
    rfl
end Go.Pw
