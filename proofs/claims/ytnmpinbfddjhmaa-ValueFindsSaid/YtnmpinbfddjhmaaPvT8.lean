/- A part of the proof: functions of the program, walked, or what operations come to. -/
import Derived.Test.YtnmpinbfddjhmaaPvN1
/-! The tables of attributes and classes, as lists of bytes. -/
namespace Go.Pv
def nm : Nat → By
  | 0 => [116, 111, 112]
  | 1 => [99, 111, 117, 110, 116, 114, 121]
  | 2 => [111, 114, 103, 97, 110, 105, 122, 97, 116, 105, 111, 110]
  | 3 => [111, 114, 103, 97, 110, 105, 122, 97, 116, 105, 111, 110, 97, 108, 85, 110, 105, 116]
  | 4 => [112, 101, 114, 115, 111, 110]
  | 5 => [105, 110, 101, 116, 79, 114, 103, 80, 101, 114, 115, 111, 110]
  | 6 => [103, 114, 111, 117, 112]
  | 7 => [100, 101, 118, 105, 99, 101]
  | 8 => [100, 99, 79, 98, 106, 101, 99, 116]
  | 9 => [108, 111, 103, 105, 110]
  | _ => []
def od : Nat → By
  | 0 => [50, 46, 53, 46, 54, 46, 48]
  | 1 => [50, 46, 53, 46, 54, 46, 50]
  | 2 => [50, 46, 53, 46, 54, 46, 52]
  | 3 => [50, 46, 53, 46, 54, 46, 53]
  | 4 => [50, 46, 53, 46, 54, 46, 54]
  | 5 => [50, 46, 49, 54, 46, 56, 52, 48, 46, 49, 46, 49, 49, 51, 55, 51, 48, 46, 51, 46, 50, 46, 50]
  | 6 => [49, 46, 51, 46, 54, 46, 49, 46, 52, 46, 49, 46, 57, 57, 57, 57, 57, 46, 51, 46, 49]
  | 7 => [50, 46, 53, 46, 54, 46, 49, 52]
  | 8 => [49, 46, 51, 46, 54, 46, 49, 46, 52, 46, 49, 46, 49, 52, 54, 54, 46, 51, 52, 52]
  | 9 => [49, 46, 51, 46, 54, 46, 49, 46, 52, 46, 49, 46, 57, 57, 57, 57, 57, 46, 51, 46, 50]
  | _ => []
def sp : Nat → By
  | 0 => []
  | 1 => [116, 111, 112]
  | 2 => [116, 111, 112]
  | 3 => [116, 111, 112]
  | 4 => [116, 111, 112]
  | 5 => [112, 101, 114, 115, 111, 110]
  | 6 => [116, 111, 112]
  | 7 => [116, 111, 112]
  | 8 => [116, 111, 112]
  | 9 => [116, 111, 112]
  | _ => []
def kd : Nat → Int
  | 0 => 0
  | 1 => 1
  | 2 => 1
  | 3 => 1
  | 4 => 1
  | 5 => 1
  | 6 => 1
  | 7 => 1
  | 8 => 2
  | 9 => 2
  | _ => 0
def mu : Nat → List By
  | 0 => [[111, 98, 106, 101, 99, 116, 67, 108, 97, 115, 115]]
  | 1 => [[99]]
  | 2 => [[111]]
  | 3 => [[111, 117]]
  | 4 => [[99, 110], [115, 110]]
  | 5 => []
  | 6 => [[99, 110]]
  | 7 => [[99, 110]]
  | 8 => [[100, 99]]
  | 9 => []
  | _ => []
def ma : Nat → List By
  | 0 => []
  | 1 => [[100, 101, 115, 99, 114, 105, 112, 116, 105, 111, 110]]
  | 2 => [[100, 101, 115, 99, 114, 105, 112, 116, 105, 111, 110], [116, 101, 108, 101, 112, 104, 111, 110, 101, 78, 117, 109, 98, 101, 114]]
  | 3 => [[100, 101, 115, 99, 114, 105, 112, 116, 105, 111, 110], [115, 101, 101, 65, 108, 115, 111], [116, 101, 108, 101, 112, 104, 111, 110, 101, 78, 117, 109, 98, 101, 114]]
  | 4 => [[100, 101, 115, 99, 114, 105, 112, 116, 105, 111, 110], [115, 101, 101, 65, 108, 115, 111], [116, 101, 108, 101, 112, 104, 111, 110, 101, 78, 117, 109, 98, 101, 114], [117, 115, 101, 114, 80, 97, 115, 115, 119, 111, 114, 100]]
  | 5 => [[101, 109, 112, 108, 111, 121, 101, 101, 78, 117, 109, 98, 101, 114], [103, 105, 118, 101, 110, 78, 97, 109, 101], [109, 97, 105, 108], [117, 105, 100]]
  | 6 => [[100, 101, 115, 99, 114, 105, 112, 116, 105, 111, 110], [109, 101, 109, 98, 101, 114], [111, 119, 110, 101, 114], [115, 101, 101, 65, 108, 115, 111]]
  | 7 => [[100, 101, 115, 99, 114, 105, 112, 116, 105, 111, 110], [111, 119, 110, 101, 114], [115, 101, 114, 105, 97, 108, 78, 117, 109, 98, 101, 114], [119, 101, 105, 103, 104, 116]]
  | 8 => []
  | 9 => [[101, 110, 97, 98, 108, 101, 100], [117, 105, 100], [117, 115, 101, 114, 80, 97, 115, 115, 119, 111, 114, 100]]
  | _ => []
def an : Nat → By
  | 0 => [111, 98, 106, 101, 99, 116, 67, 108, 97, 115, 115]
  | 1 => [99, 110]
  | 2 => [115, 110]
  | 3 => [115, 101, 114, 105, 97, 108, 78, 117, 109, 98, 101, 114]
  | 4 => [99]
  | 5 => [111]
  | 6 => [111, 117]
  | 7 => [100, 101, 115, 99, 114, 105, 112, 116, 105, 111, 110]
  | 8 => [116, 101, 108, 101, 112, 104, 111, 110, 101, 78, 117, 109, 98, 101, 114]
  | 9 => [109, 101, 109, 98, 101, 114]
  | 10 => [111, 119, 110, 101, 114]
  | 11 => [115, 101, 101, 65, 108, 115, 111]
  | 12 => [117, 115, 101, 114, 80, 97, 115, 115, 119, 111, 114, 100]
  | 13 => [103, 105, 118, 101, 110, 78, 97, 109, 101]
  | 14 => [117, 105, 100]
  | 15 => [109, 97, 105, 108]
  | 16 => [100, 99]
  | 17 => [101, 109, 112, 108, 111, 121, 101, 101, 78, 117, 109, 98, 101, 114]
  | 18 => [101, 110, 97, 98, 108, 101, 100]
  | 19 => [119, 101, 105, 103, 104, 116]
  | _ => []
def aa : Nat → By
  | 0 => []
  | 1 => [99, 111, 109, 109, 111, 110, 78, 97, 109, 101]
  | 2 => [115, 117, 114, 110, 97, 109, 101]
  | 3 => []
  | 4 => [99, 111, 117, 110, 116, 114, 121, 78, 97, 109, 101]
  | 5 => [111, 114, 103, 97, 110, 105, 122, 97, 116, 105, 111, 110, 78, 97, 109, 101]
  | 6 => [111, 114, 103, 97, 110, 105, 122, 97, 116, 105, 111, 110, 97, 108, 85, 110, 105, 116, 78, 97, 109, 101]
  | 7 => []
  | 8 => []
  | 9 => []
  | 10 => []
  | 11 => []
  | 12 => []
  | 13 => []
  | 14 => [117, 115, 101, 114, 105, 100]
  | 15 => []
  | 16 => [100, 111, 109, 97, 105, 110, 67, 111, 109, 112, 111, 110, 101, 110, 116]
  | 17 => []
  | 18 => []
  | 19 => []
  | _ => []
def ao : Nat → By
  | 0 => [50, 46, 53, 46, 52, 46, 48]
  | 1 => [50, 46, 53, 46, 52, 46, 51]
  | 2 => [50, 46, 53, 46, 52, 46, 52]
  | 3 => [50, 46, 53, 46, 52, 46, 53]
  | 4 => [50, 46, 53, 46, 52, 46, 54]
  | 5 => [50, 46, 53, 46, 52, 46, 49, 48]
  | 6 => [50, 46, 53, 46, 52, 46, 49, 49]
  | 7 => [50, 46, 53, 46, 52, 46, 49, 51]
  | 8 => [50, 46, 53, 46, 52, 46, 50, 48]
  | 9 => [50, 46, 53, 46, 52, 46, 51, 49]
  | 10 => [50, 46, 53, 46, 52, 46, 51, 50]
  | 11 => [50, 46, 53, 46, 52, 46, 51, 52]
  | 12 => [50, 46, 53, 46, 52, 46, 51, 53]
  | 13 => [50, 46, 53, 46, 52, 46, 52, 50]
  | 14 => [48, 46, 57, 46, 50, 51, 52, 50, 46, 49, 57, 50, 48, 48, 51, 48, 48, 46, 49, 48, 48, 46, 49, 46, 49]
  | 15 => [48, 46, 57, 46, 50, 51, 52, 50, 46, 49, 57, 50, 48, 48, 51, 48, 48, 46, 49, 48, 48, 46, 49, 46, 51]
  | 16 => [48, 46, 57, 46, 50, 51, 52, 50, 46, 49, 57, 50, 48, 48, 51, 48, 48, 46, 49, 48, 48, 46, 49, 46, 50, 53]
  | 17 => [50, 46, 49, 54, 46, 56, 52, 48, 46, 49, 46, 49, 49, 51, 55, 51, 48, 46, 51, 46, 49, 46, 51]
  | 18 => [49, 46, 51, 46, 54, 46, 49, 46, 52, 46, 49, 46, 57, 57, 57, 57, 57, 46, 49]
  | 19 => [49, 46, 51, 46, 54, 46, 49, 46, 52, 46, 49, 46, 57, 57, 57, 57, 57, 46, 50]
  | _ => []
def asy : Nat → Int
  | 0 => 9
  | 1 => 1
  | 2 => 1
  | 3 => 2
  | 4 => 1
  | 5 => 1
  | 6 => 1
  | 7 => 1
  | 8 => 7
  | 9 => 6
  | 10 => 6
  | 11 => 6
  | 12 => 5
  | 13 => 1
  | 14 => 1
  | 15 => 1
  | 16 => 1
  | 17 => 3
  | 18 => 4
  | 19 => 8
  | _ => 0
def asi : Nat → Bool
  | 0 => false
  | 1 => false
  | 2 => false
  | 3 => false
  | 4 => true
  | 5 => false
  | 6 => false
  | 7 => false
  | 8 => false
  | 9 => false
  | 10 => false
  | 11 => false
  | 12 => false
  | 13 => false
  | 14 => false
  | 15 => false
  | 16 => true
  | 17 => true
  | 18 => true
  | 19 => true
  | _ => false
theorem find_range (p : Nat → Bool) : ∀ (n k : Nat), k < n → p k = true → (∀ j, j < k → p j = false) → (List.range n).find? p = some k
  | 0, k, h, _, _ => by omega
  | n + 1, k, h, hp, hj => by
    rw [List.range_succ, List.find?_append]
    rcases Nat.lt_or_ge k n with q | q
    · rw [find_range p n k q hp hj]; rfl
    · have : k = n := by omega
      subst this
      have hn : (List.range k).find? p = none := by
        rw [List.find?_eq_none]
        intro x hx
        rw [hj x (List.mem_range.1 hx)]
        decide
      rw [hn]
      simp [hp]
theorem find_range_none (p : Nat → Bool) (n : Nat) (h : ∀ j, j < n → p j = false) : (List.range n).find? p = none := by
  rw [List.find?_eq_none]
  intro x hx
  rw [h x (List.mem_range.1 hx)]
  decide
def lowB (c : UInt8) : UInt8 := if 65 ≤ c ∧ c ≤ 90 then c + 32 else c
def lowL (l : By) : By := l.map lowB
def hit (s : By) (k : Nat) : Bool := decide (lowL s = lowL (nm k)) || decide (s = od k)
def fcls (s : By) : Nat := ((List.range 10).find? (hit s)).getD 10
theorem fcls_of {s : By} {k : Nat} (hk : k < 10) (h : hit s k = true) (hj : ∀ j, j < k → hit s j = false) : fcls s = k := by rw [fcls, find_range _ 10 k hk h hj]; rfl
theorem fcls_none {s : By} (hj : ∀ j, j < 10 → hit s j = false) : fcls s = 10 := by rw [fcls, find_range_none _ 10 hj]; rfl
def hitA (s : By) (k : Nat) : Bool := decide (lowL s = lowL (an k)) || (!(lowL s).isEmpty && decide (lowL s = lowL (aa k))) || decide (s = ao k)
def fatt (s : By) : Nat := ((List.range 20).find? (hitA s)).getD 20
theorem fatt_of {s : By} {k : Nat} (hk : k < 20) (h : hitA s k = true) (hj : ∀ j, j < k → hitA s j = false) : fatt s = k := by rw [fatt, find_range _ 20 k hk h hj]; rfl
theorem fatt_none {s : By} (hj : ∀ j, j < 20 → hitA s j = false) : fatt s = 20 := by rw [fatt, find_range_none _ 20 hj]; rfl
theorem nm_small (k : Nat) : (nm k).length ≤ 100000 := by unfold nm; split <;> decide
theorem an_small (k : Nat) : (an k).length ≤ 100000 := by unfold an; split <;> decide
theorem aa_small (k : Nat) : (aa k).length ≤ 100000 := by unfold aa; split <;> decide
def pureB : Nat → D → Bool
  | 0, _ => false
  | n + 1, d => match d with
    | .undef => true
    | .val _ => true
    | .slice _ _ l => (flat l).all (pureB n)
    | .agg cs => cs.all (pureB n)
    | .tup cs => cs.all (pureB n)
    | .obj cs _ => cs.all (pureB n)
    | .ifc _ d => pureB n d
    | _ => false
theorem pure_of : ∀ (n : Nat) (d : D), pureB n d = true → Pure d
  | 0, _, h => by cases h
  | n + 1, d, h => by
    simp only [pureB] at h
    cases d with
    | undef => exact .undef
    | val v => exact .val v
    | slice g e l => exact .slice g e l fun d hd => pure_of n d (List.all_eq_true.1 h d hd)
    | agg cs => exact .agg cs fun d hd => pure_of n d (List.all_eq_true.1 h d hd)
    | tup cs => exact .tup cs fun d hd => pure_of n d (List.all_eq_true.1 h d hd)
    | obj cs off => exact .obj cs off fun d hd => pure_of n d (List.all_eq_true.1 h d hd)
    | ifc t d => exact .ifc t d (pure_of n d h)
    | arr i e off len => cases h
    | row i e off len => cases h
    | ptr i off => cases h
    | rptr i e k c => cases h
    | clo f a b => cases h
    | mp i => cases h
def listD (e : TypeId) (l : List By) : D := if l.isEmpty = true then .slice 1 0 [] else .slice 0 e (l.map sD)
@[simp] theorem one_listD (e : TypeId) (l : List By) : oneD (listD e l) = true := by unfold listD; split <;> rfl
theorem pure_list (e : TypeId) (l : List By) : Pure (listD e l) := by
  unfold listD
  split
  · exact .slice _ _ _ fun d hd => by cases hd
  · refine .slice _ _ _ fun d hd => ?_
    simp only [flat, List.mem_flatMap, List.mem_map] at hd
    obtain ⟨x, ⟨y, _, rfl⟩, hd⟩ := hd
    simp [sD] at hd
    subst hd
    exact .val _
end Go.Pv
