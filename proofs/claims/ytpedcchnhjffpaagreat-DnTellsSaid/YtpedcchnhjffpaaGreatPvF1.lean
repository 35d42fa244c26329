/- A part of the proof: functions of the program, walked, or what operations come to. -/
import Derived.Test.YtpedcchnhjffpaaGreatPvGen
import Derived.Test.YtpedcchnhjffpaaGreatPvN1
namespace Go.Pv
/-! ### Characters of a text (UTF-8) -/
theorem wrapR (n : Int) (h : -2147483648 ≤ n) (h' : n ≤ 2147483647) : IntKind.i32.wrap n = n := by
  simp [IntKind.wrap, IntKind.bits, IntKind.signed]; omega
theorem rune_or (v : Nat) (x : UInt8) (hv : v < 33554432) : IntKind.i32.wrap ((((IntKind.i32.wrap ((v : Int) * 2 ^ min 6 IntKind.i32.bits) % 2 ^ IntKind.i32.bits).toNat ||| (IntKind.i32.wrap (IntKind.u8.wrap ((x.toNat % 2 ^ IntKind.u8.bits &&& 63 % 2 ^ IntKind.u8.bits : Nat) : Int)) % 2 ^ IntKind.i32.bits).toNat : Nat) : Int)) = ((v * 64 + x.toNat % 64 : Nat) : Int) := by
  have h2 : ∀ m : Nat, m < 256 → m &&& 63 = m % 64 := by decide +kernel
  have hx := x.toNat_lt
  have e1 : (2 : Int) ^ min 6 IntKind.i32.bits = 64 := rfl
  have e2 : (2 : Int) ^ IntKind.i32.bits = 4294967296 := rfl
  have e3 : x.toNat % 2 ^ IntKind.u8.bits = x.toNat := by rw [show (2 : Nat) ^ IntKind.u8.bits = 256 from rfl]; omega
  have e4 : 63 % 2 ^ IntKind.u8.bits = 63 := rfl
  rw [e1, e2, e3, e4, h2 _ hx, wrapR ((v : Int) * 64) (by omega) (by omega), wrapB _ (by omega) (by omega), wrapR ((x.toNat % 64 : Nat) : Int) (by omega) (by omega)]
  have a1 : ((v : Int) * 64 % 4294967296).toNat = v <<< 6 := by rw [Nat.shiftLeft_eq]; omega
  have a2 : (((x.toNat % 64 : Nat) : Int) % 4294967296).toNat = x.toNat % 64 := by omega
  rw [a1, a2, ← Nat.shiftLeft_add_eq_or_of_lt (by omega), wrapR _ (by rw [Nat.shiftLeft_eq]; omega) (by rw [Nat.shiftLeft_eq]; omega), Nat.shiftLeft_eq]
/-- By a first byte: how many bytes, its bits, the least character. -/
def leadB (c : UInt8) : Nat × Nat × Nat :=
  if c.toNat < 128 then (1, c.toNat, 0)
  else if c.toNat / 32 = 6 then (2, c.toNat % 32, 128)
  else if c.toNat / 16 = 14 then (3, c.toNat % 16, 2048)
  else if c.toNat / 8 = 30 then (4, c.toNat % 8, 65536)
  else (0, 0, 0)
def cont (c : UInt8) : Bool := decide (c.toNat / 64 = 2)
def accum (b : Nat) (l : By) : Nat := l.foldl (fun a c => a * 64 + c.toNat % 64) b
@[simp] theorem accum_nil (b : Nat) : accum b [] = b := rfl
def badC (v least : Nat) : Bool := decide (v < least) || decide (1114111 < v) || (decide (55296 ≤ v) && decide (v < 57344))
def nextM : By → Option (Nat × Nat)
  | [] => none
  | c :: t =>
    if (leadB c).1 = 0 ∨ t.length + 1 < (leadB c).1 then none
    else if (t.take ((leadB c).1 - 1)).all cont = false then none
    else if badC (accum (leadB c).2.1 (t.take ((leadB c).1 - 1))) (leadB c).2.2 then none
    else some (accum (leadB c).2.1 (t.take ((leadB c).1 - 1)), (leadB c).1)
theorem leadB_le (c : UInt8) : (leadB c).1 ≤ 4 := by
  unfold leadB; split <;> (try split) <;> (try split) <;> (try split) <;> simp
theorem leadB_bits (c : UInt8) : (leadB c).2.1 < 128 := by
  unfold leadB; split <;> (try split) <;> (try split) <;> (try split) <;> simp <;> omega
theorem accum_lt (b : Nat) (l : By) : accum b l < (b + 1) * 64 ^ l.length := by
  unfold accum
  induction l generalizing b with
  | nil => simp
  | cons c l ih =>
    have h := ih (b * 64 + c.toNat % 64)
    have h1 : c.toNat % 64 < 64 := Nat.mod_lt _ (by decide)
    have h2 : (b * 64 + c.toNat % 64 + 1) * 64 ^ l.length ≤ ((b + 1) * 64) * 64 ^ l.length := Nat.mul_le_mul_right _ (by omega)
    simp only [List.foldl_cons, List.length_cons, Nat.pow_succ]
    have h3 : (b + 1) * 64 * 64 ^ l.length = (b + 1) * (64 ^ l.length * 64) := by rw [Nat.mul_assoc, Nat.mul_comm 64]
    omega
theorem accum_small (b : Nat) (l : By) (hb : b < 128) (hl : l.length ≤ 3) : accum b l < 33554432 := by
  have h := accum_lt b l
  have h1 : (b + 1) * 64 ^ l.length ≤ 128 * 64 ^ 3 := Nat.mul_le_mul (by omega) (Nat.pow_le_pow_right (by decide) hl)
  omega
theorem accum_take (b : Nat) (l : By) (k : Nat) (c : UInt8) (h : l[k]? = some c) : accum b (l.take (k + 1)) = accum b (l.take k) * 64 + c.toNat % 64 := by
  unfold accum
  rw [List.take_add_one, h, List.foldl_append]; rfl
theorem nextM_len {l : By} {v n : Nat} (h : nextM l = some (v, n)) : 0 < n ∧ n ≤ l.length ∧ n ≤ 4 ∧ v < 1114112 := by
  cases l with
  | nil => cases h
  | cons c t =>
    rw [nextM] at h
    have := leadB_le c
    by_cases h1 : (leadB c).1 = 0 ∨ t.length + 1 < (leadB c).1
    · rw [if_pos h1] at h; cases h
    · rw [if_neg h1] at h
      by_cases h2 : (t.take ((leadB c).1 - 1)).all cont = false
      · rw [if_pos h2] at h; cases h
      · rw [if_neg h2] at h
        by_cases h3 : badC (accum (leadB c).2.1 (t.take ((leadB c).1 - 1))) (leadB c).2.2 = true
        · rw [if_pos h3] at h; cases h
        · rw [if_neg h3] at h
          simp only [Option.some.injEq, Prod.mk.injEq] at h
          simp only [badC, Bool.or_eq_true, Bool.and_eq_true, decide_eq_true_eq, not_or] at h3
          simp only [not_or] at h1
          refine ⟨by omega, by rw [List.length_cons]; omega, by omega, by omega⟩
/-- All characters of a text: number and bytes. -/
def charsF : Nat → By → Option (List (Nat × By))
  | _, [] => some []
  | 0, _ :: _ => none
  | f + 1, c :: t => match nextM (c :: t) with
    | none => none
    | some (v, n) => (charsF f ((c :: t).drop n)).map ((v, (c :: t).take n) :: ·)
def chars (l : By) : Option (List (Nat × By)) := charsF l.length l
theorem charsF_more : ∀ (f : Nat) (l : By), l.length ≤ f → charsF f l = charsF l.length l := by
  intro f
  induction f using Nat.strongRecOn with
  | ind f ih =>
    intro l hl
    cases l with
    | nil => cases f <;> rfl
    | cons c t =>
      cases f with
      | zero => simp at hl
      | succ f =>
        simp only [charsF, List.length_cons]
        cases hq : nextM (c :: t) with
        | none => rfl
        | some p =>
          obtain ⟨v, n⟩ := p
          have hn := nextM_len hq
          simp only [List.length_cons] at hl hn
          have h1 : ((c :: t).drop n).length ≤ t.length := by simp; omega
          simp only
          rw [ih f (by omega) _ (by omega), ih t.length (by omega) _ h1]
theorem chars_nil : chars [] = some [] := rfl
theorem chars_cons {l : By} (hne : l ≠ []) : chars l = match nextM l with
    | none => none
    | some (v, n) => (chars (l.drop n)).map ((v, l.take n) :: ·) := by
  cases l with
  | nil => exact absurd rfl hne
  | cons c t =>
    unfold chars
    simp only [List.length_cons, charsF]
    cases hq : nextM (c :: t) with
    | none => rfl
    | some p =>
      obtain ⟨v, n⟩ := p
      have hn := nextM_len hq
      simp only [List.length_cons] at hn
      simp only
      rw [charsF_more t.length _ (by simp; omega)]
/-- A text's characters, from a place on. -/
def Left (l : By) (cs : List (Nat × By)) (r : By) : Prop := chars l = (chars r).map (cs ++ ·) ∧ r.length + cs.length ≤ l.length
theorem Left.start (l : By) : Left l [] l := ⟨by simp, by simp⟩
theorem Left.none {l r : By} {cs : List (Nat × By)} (h : Left l cs r) (hr : r ≠ []) (hn : nextM r = none) : chars l = none := by
  rw [h.1, chars_cons hr, hn]; rfl
theorem Left.step {l r : By} {cs : List (Nat × By)} {v n : Nat} (h : Left l cs r) (hr : r ≠ []) (hn : nextM r = some (v, n)) : Left l (cs ++ [(v, r.take n)]) (r.drop n) := by
  have hk := nextM_len hn
  refine ⟨?_, by have := h.2; simp; omega⟩
  rw [h.1, chars_cons hr, hn]
  simp only [Option.map_map]
  congr 1
  funext x
  simp
theorem Left.last {l : By} {cs : List (Nat × By)} (h : Left l cs []) : chars l = some cs := by
  rw [h.1, chars_nil]; simp
end Go.Pv
/-! The tables of attributes and classes, as lists of bytes. -/
namespace Go.Pv
def nm : Nat → By
  | 0 => [116, 111, 112]
  | 1 => [99, 111, 117, 110, 116, 114, 121]
  | 2 => [111, 114, 103, 97, 110, 105, 122, 97, 116, 105, 111, 110]
  | 3 => [111, 114, 103, 97, 110, 105, 122, 97, 116, 105, 111, 110, 97, 108, 85, 110, 105, 116]
  | 4 => [112, 101, 114, 115, 111, 110]
  | 5 => [105, 110, 101, 116, 79, 114, 103, 80, 101, 114, 115, 111, 110]
  | 6 => [103, 114, 111, 117, 112]
  | 7 => [100, 101, 118, 105, 99, 101]
  | 8 => [100, 99, 79, 98, 106, 101, 99, 116]
  | 9 => [108, 111, 103, 105, 110]
  | _ => []
def od : Nat → By
  | 0 => [50, 46, 53, 46, 54, 46, 48]
  | 1 => [50, 46, 53, 46, 54, 46, 50]
  | 2 => [50, 46, 53, 46, 54, 46, 52]
  | 3 => [50, 46, 53, 46, 54, 46, 53]
  | 4 => [50, 46, 53, 46, 54, 46, 54]
  | 5 => [50, 46, 49, 54, 46, 56, 52, 48, 46, 49, 46, 49, 49, 51, 55, 51, 48, 46, 51, 46, 50, 46, 50]
  | 6 => [49, 46, 51, 46, 54, 46, 49, 46, 52, 46, 49, 46, 57, 57, 57, 57, 57, 46, 51, 46, 49]
  | 7 => [50, 46, 53, 46, 54, 46, 49, 52]
  | 8 => [49, 46, 51, 46, 54, 46, 49, 46, 52, 46, 49, 46, 49, 52, 54, 54, 46, 51, 52, 52]
  | 9 => [49, 46, 51, 46, 54, 46, 49, 46, 52, 46, 49, 46, 57, 57, 57, 57, 57, 46, 51, 46, 50]
  | _ => []
def sp : Nat → By
  | 0 => []
  | 1 => [116, 111, 112]
  | 2 => [116, 111, 112]
  | 3 => [116, 111, 112]
  | 4 => [116, 111, 112]
  | 5 => [112, 101, 114, 115, 111, 110]
  | 6 => [116, 111, 112]
  | 7 => [116, 111, 112]
  | 8 => [116, 111, 112]
  | 9 => [116, 111, 112]
  | _ => []
def kd : Nat → Int
  | 0 => 0
  | 1 => 1
  | 2 => 1
  | 3 => 1
  | 4 => 1
  | 5 => 1
  | 6 => 1
  | 7 => 1
  | 8 => 2
  | 9 => 2
  | _ => 0
def mu : Nat → List By
  | 0 => [[111, 98, 106, 101, 99, 116, 67, 108, 97, 115, 115]]
  | 1 => [[99]]
  | 2 => [[111]]
  | 3 => [[111, 117]]
  | 4 => [[99, 110], [115, 110]]
  | 5 => []
  | 6 => [[99, 110]]
  | 7 => [[99, 110]]
  | 8 => [[100, 99]]
  | 9 => []
  | _ => []
def ma : Nat → List By
  | 0 => []
  | 1 => [[100, 101, 115, 99, 114, 105, 112, 116, 105, 111, 110]]
  | 2 => [[100, 101, 115, 99, 114, 105, 112, 116, 105, 111, 110], [116, 101, 108, 101, 112, 104, 111, 110, 101, 78, 117, 109, 98, 101, 114]]
  | 3 => [[100, 101, 115, 99, 114, 105, 112, 116, 105, 111, 110], [115, 101, 101, 65, 108, 115, 111], [116, 101, 108, 101, 112, 104, 111, 110, 101, 78, 117, 109, 98, 101, 114]]
  | 4 => [[100, 101, 115, 99, 114, 105, 112, 116, 105, 111, 110], [115, 101, 101, 65, 108, 115, 111], [116, 101, 108, 101, 112, 104, 111, 110, 101, 78, 117, 109, 98, 101, 114], [117, 115, 101, 114, 80, 97, 115, 115, 119, 111, 114, 100]]
  | 5 => [[101, 109, 112, 108, 111, 121, 101, 101, 78, 117, 109, 98, 101, 114], [103, 105, 118, 101, 110, 78, 97, 109, 101], [109, 97, 105, 108], [117, 105, 100]]
  | 6 => [[100, 101, 115, 99, 114, 105, 112, 116, 105, 111, 110], [109, 101, 109, 98, 101, 114], [111, 119, 110, 101, 114], [115, 101, 101, 65, 108, 115, 111]]
  | 7 => [[100, 101, 115, 99, 114, 105, 112, 116, 105, 111, 110], [111, 119, 110, 101, 114], [115, 101, 114, 105, 97, 108, 78, 117, 109, 98, 101, 114], [119, 101, 105, 103, 104, 116]]
  | 8 => []
  | 9 => [[101, 110, 97, 98, 108, 101, 100], [117, 105, 100], [117, 115, 101, 114, 80, 97, 115, 115, 119, 111, 114, 100]]
  | _ => []
def an : Nat → By
  | 0 => [111, 98, 106, 101, 99, 116, 67, 108, 97, 115, 115]
  | 1 => [99, 110]
  | 2 => [115, 110]
  | 3 => [115, 101, 114, 105, 97, 108, 78, 117, 109, 98, 101, 114]
  | 4 => [99]
  | 5 => [111]
  | 6 => [111, 117]
  | 7 => [100, 101, 115, 99, 114, 105, 112, 116, 105, 111, 110]
  | 8 => [116, 101, 108, 101, 112, 104, 111, 110, 101, 78, 117, 109, 98, 101, 114]
  | 9 => [109, 101, 109, 98, 101, 114]
  | 10 => [111, 119, 110, 101, 114]
  | 11 => [115, 101, 101, 65, 108, 115, 111]
  | 12 => [117, 115, 101, 114, 80, 97, 115, 115, 119, 111, 114, 100]
  | 13 => [103, 105, 118, 101, 110, 78, 97, 109, 101]
  | 14 => [117, 105, 100]
  | 15 => [109, 97, 105, 108]
  | 16 => [100, 99]
  | 17 => [101, 109, 112, 108, 111, 121, 101, 101, 78, 117, 109, 98, 101, 114]
  | 18 => [101, 110, 97, 98, 108, 101, 100]
  | 19 => [119, 101, 105, 103, 104, 116]
  | _ => []
def aa : Nat → By
  | 0 => []
  | 1 => [99, 111, 109, 109, 111, 110, 78, 97, 109, 101]
  | 2 => [115, 117, 114, 110, 97, 109, 101]
  | 3 => []
  | 4 => [99, 111, 117, 110, 116, 114, 121, 78, 97, 109, 101]
  | 5 => [111, 114, 103, 97, 110, 105, 122, 97, 116, 105, 111, 110, 78, 97, 109, 101]
  | 6 => [111, 114, 103, 97, 110, 105, 122, 97, 116, 105, 111, 110, 97, 108, 85, 110, 105, 116, 78, 97, 109, 101]
  | 7 => []
  | 8 => []
  | 9 => []
  | 10 => []
  | 11 => []
  | 12 => []
  | 13 => []
  | 14 => [117, 115, 101, 114, 105, 100]
  | 15 => []
  | 16 => [100, 111, 109, 97, 105, 110, 67, 111, 109, 112, 111, 110, 101, 110, 116]
  | 17 => []
  | 18 => []
  | 19 => []
  | _ => []
def ao : Nat → By
  | 0 => [50, 46, 53, 46, 52, 46, 48]
  | 1 => [50, 46, 53, 46, 52, 46, 51]
  | 2 => [50, 46, 53, 46, 52, 46, 52]
  | 3 => [50, 46, 53, 46, 52, 46, 53]
  | 4 => [50, 46, 53, 46, 52, 46, 54]
  | 5 => [50, 46, 53, 46, 52, 46, 49, 48]
  | 6 => [50, 46, 53, 46, 52, 46, 49, 49]
  | 7 => [50, 46, 53, 46, 52, 46, 49, 51]
  | 8 => [50, 46, 53, 46, 52, 46, 50, 48]
  | 9 => [50, 46, 53, 46, 52, 46, 51, 49]
  | 10 => [50, 46, 53, 46, 52, 46, 51, 50]
  | 11 => [50, 46, 53, 46, 52, 46, 51, 52]
  | 12 => [50, 46, 53, 46, 52, 46, 51, 53]
  | 13 => [50, 46, 53, 46, 52, 46, 52, 50]
  | 14 => [48, 46, 57, 46, 50, 51, 52, 50, 46, 49, 57, 50, 48, 48, 51, 48, 48, 46, 49, 48, 48, 46, 49, 46, 49]
  | 15 => [48, 46, 57, 46, 50, 51, 52, 50, 46, 49, 57, 50, 48, 48, 51, 48, 48, 46, 49, 48, 48, 46, 49, 46, 51]
  | 16 => [48, 46, 57, 46, 50, 51, 52, 50, 46, 49, 57, 50, 48, 48, 51, 48, 48, 46, 49, 48, 48, 46, 49, 46, 50, 53]
  | 17 => [50, 46, 49, 54, 46, 56, 52, 48, 46, 49, 46, 49, 49, 51, 55, 51, 48, 46, 51, 46, 49, 46, 51]
  | 18 => [49, 46, 51, 46, 54, 46, 49, 46, 52, 46, 49, 46, 57, 57, 57, 57, 57, 46, 49]
  | 19 => [49, 46, 51, 46, 54, 46, 49, 46, 52, 46, 49, 46, 57, 57, 57, 57, 57, 46, 50]
  | _ => []
def asy : Nat → Int
  | 0 => 9
  | 1 => 1
  | 2 => 1
  | 3 => 2
  | 4 => 1
  | 5 => 1
  | 6 => 1
  | 7 => 1
  | 8 => 7
  | 9 => 6
  | 10 => 6
  | 11 => 6
  | 12 => 5
  | 13 => 1
  | 14 => 1
  | 15 => 1
  | 16 => 1
  | 17 => 3
  | 18 => 4
  | 19 => 8
  | _ => 0
def asi : Nat → Bool
  | 0 => false
  | 1 => false
  | 2 => false
  | 3 => false
  | 4 => true
  | 5 => false
  | 6 => false
  | 7 => false
  | 8 => false
  | 9 => false
  | 10 => false
  | 11 => false
  | 12 => false
  | 13 => false
  | 14 => false
  | 15 => false
  | 16 => true
  | 17 => true
  | 18 => true
  | 19 => true
  | _ => false
theorem find_range (p : Nat → Bool) : ∀ (n k : Nat), k < n → p k = true → (∀ j, j < k → p j = false) → (List.range n).find? p = some k
  | 0, k, h, _, _ => by omega
  | n + 1, k, h, hp, hj => by
    rw [List.range_succ, List.find?_append]
    rcases Nat.lt_or_ge k n with q | q
    · rw [find_range p n k q hp hj]; rfl
    · have : k = n := by omega
      subst this
      have hn : (List.range k).find? p = none := by
        rw [List.find?_eq_none]
        intro x hx
        rw [hj x (List.mem_range.1 hx)]
        decide
      rw [hn]
      simp [hp]
theorem find_range_none (p : Nat → Bool) (n : Nat) (h : ∀ j, j < n → p j = false) : (List.range n).find? p = none := by
  rw [List.find?_eq_none]
  intro x hx
  rw [h x (List.mem_range.1 hx)]
  decide
def lowB (c : UInt8) : UInt8 := if 65 ≤ c ∧ c ≤ 90 then c + 32 else c
def lowL (l : By) : By := l.map lowB
def hit (s : By) (k : Nat) : Bool := decide (lowL s = lowL (nm k)) || decide (s = od k)
def fcls (s : By) : Nat := ((List.range 10).find? (hit s)).getD 10
theorem fcls_of {s : By} {k : Nat} (hk : k < 10) (h : hit s k = true) (hj : ∀ j, j < k → hit s j = false) : fcls s = k := by rw [fcls, find_range _ 10 k hk h hj]; rfl
theorem fcls_none {s : By} (hj : ∀ j, j < 10 → hit s j = false) : fcls s = 10 := by rw [fcls, find_range_none _ 10 hj]; rfl
def hitA (s : By) (k : Nat) : Bool := decide (lowL s = lowL (an k)) || (!(lowL s).isEmpty && decide (lowL s = lowL (aa k))) || decide (s = ao k)
def fatt (s : By) : Nat := ((List.range 20).find? (hitA s)).getD 20
theorem fatt_of {s : By} {k : Nat} (hk : k < 20) (h : hitA s k = true) (hj : ∀ j, j < k → hitA s j = false) : fatt s = k := by rw [fatt, find_range _ 20 k hk h hj]; rfl
theorem fatt_none {s : By} (hj : ∀ j, j < 20 → hitA s j = false) : fatt s = 20 := by rw [fatt, find_range_none _ 20 hj]; rfl
theorem nm_small (k : Nat) : (nm k).length ≤ 100000 := by unfold nm; split <;> decide
theorem an_small (k : Nat) : (an k).length ≤ 100000 := by unfold an; split <;> decide
theorem aa_small (k : Nat) : (aa k).length ≤ 100000 := by unfold aa; split <;> decide
def pureB : Nat → D → Bool
  | 0, _ => false
  | n + 1, d => match d with
    | .undef => true
    | .val _ => true
    | .slice _ _ l => (flat l).all (pureB n)
    | .agg cs => cs.all (pureB n)
    | .tup cs => cs.all (pureB n)
    | .obj cs _ => cs.all (pureB n)
    | .ifc _ d => pureB n d
    | _ => false
theorem pure_of : ∀ (n : Nat) (d : D), pureB n d = true → Pure d
  | 0, _, h => by cases h
  | n + 1, d, h => by
    simp only [pureB] at h
    cases d with
    | undef => exact .undef
    | val v => exact .val v
    | slice g e l => exact .slice g e l fun d hd => pure_of n d (List.all_eq_true.1 h d hd)
    | agg cs => exact .agg cs fun d hd => pure_of n d (List.all_eq_true.1 h d hd)
    | tup cs => exact .tup cs fun d hd => pure_of n d (List.all_eq_true.1 h d hd)
    | obj cs off => exact .obj cs off fun d hd => pure_of n d (List.all_eq_true.1 h d hd)
    | ifc t d => exact .ifc t d (pure_of n d h)
    | arr i e off len => cases h
    | row i e off len => cases h
    | ptr i off => cases h
    | rptr i e k c => cases h
    | clo f a b => cases h
    | mp i => cases h
def listD (e : TypeId) (l : List By) : D := if l.isEmpty = true then .slice 1 0 [] else .slice 0 e (l.map sD)
@[simp] theorem one_listD (e : TypeId) (l : List By) : oneD (listD e l) = true := by unfold listD; split <;> rfl
theorem pure_list (e : TypeId) (l : List By) : Pure (listD e l) := by
  unfold listD
  split
  · exact .slice _ _ _ fun d hd => by cases hd
  · refine .slice _ _ _ fun d hd => ?_
    simp only [flat, List.mem_flatMap, List.mem_map] at hd
    obtain ⟨x, ⟨y, _, rfl⟩, hd⟩ := hd
    simp [sD] at hd
    subst hd
    exact .val _
end Go.Pv
namespace Go.Pv
/-! ### Sixteen digits of bits -/
def hexM (c : UInt8) : Option Nat :=
  if 48 ≤ c.toNat ∧ c.toNat ≤ 57 then some (c.toNat - 48)
  else if 97 ≤ c.toNat ∧ c.toNat ≤ 102 then some (c.toNat - 97 + 10)
  else if 65 ≤ c.toNat ∧ c.toNat ≤ 70 then some (c.toNat - 65 + 10) else none
theorem hexM_lt {c : UInt8} {n : Nat} (h : hexM c = some n) : n < 16 := by
  unfold hexM at h
  split at h
  · simp at h; omega
  · split at h
    · simp at h; omega
    · split at h
      · simp at h; omega
      · cases h
def hexAll (l : By) : Bool := l.all fun c => (hexM c).isSome
def hexV (l : By) : Nat := l.foldl (fun a c => a * 16 + (hexM c).getD 0) 0
def parseM (l : By) : Option Nat := if l.length = 16 ∧ hexAll l = true then some (hexV l) else none
theorem hexV_take (l : By) (k : Nat) (c : UInt8) (h : l[k]? = some c) : hexV (l.take (k + 1)) = hexV (l.take k) * 16 + (hexM c).getD 0 := by
  unfold hexV
  rw [List.take_add_one, h, List.foldl_append]; rfl
@[simp] theorem hexV_nil : hexV [] = 0 := rfl
@[simp] theorem hexAll_nil : hexAll [] = true := rfl
theorem hexV_lt (l : By) : hexV l < 16 ^ l.length := by
  suffices h : ∀ (l : By) (a m : Nat), a < m → l.foldl (fun a c => a * 16 + (hexM c).getD 0) a < m * 16 ^ l.length by
    have := h l 0 1 (by decide)
    simpa [hexV] using this
  intro l
  induction l with
  | nil => intro a m h; simpa using h
  | cons c l ih =>
    intro a m h
    have hc : (hexM c).getD 0 < 16 := by
      cases hq : hexM c with
      | none => simp
      | some n => exact hexM_lt hq
    have := ih (a * 16 + (hexM c).getD 0) (m * 16) (by omega)
    rw [List.foldl_cons, List.length_cons, Nat.pow_succ, Nat.mul_comm (16 ^ _) 16, ← Nat.mul_assoc]
    exact this
theorem wrapU (n : Int) (h : 0 ≤ n) (h' : n < 18446744073709551616) : IntKind.u64.wrap n = n := by
  simp [IntKind.wrap, IntKind.bits, IntKind.signed]; omega
theorem nib_or (v d : Nat) (hv : v * 16 < 18446744073709551616) (hd : d < 16) : IntKind.u64.wrap ((((IntKind.u64.wrap ((v : Int) * 2 ^ min 4 IntKind.u64.bits) % 2 ^ IntKind.u64.bits).toNat ||| d % 2 ^ IntKind.u64.bits : Nat) : Int)) = ((v * 16 + d : Nat) : Int) := by
  have e1 : (2 : Int) ^ min 4 IntKind.u64.bits = 16 := rfl
  have e2 : (2 : Int) ^ IntKind.u64.bits = 18446744073709551616 := rfl
  have e3 : d % 2 ^ IntKind.u64.bits = d := by rw [show (2 : Nat) ^ IntKind.u64.bits = 18446744073709551616 from rfl]; omega
  rw [e1, e2, e3, wrapU ((v : Int) * 16) (by omega) (by omega)]
  have a1 : ((v : Int) * 16 % 18446744073709551616).toNat = v <<< 4 := by rw [Nat.shiftLeft_eq]; omega
  rw [a1, ← Nat.shiftLeft_add_eq_or_of_lt (by omega), wrapU _ (by omega) (by rw [Nat.shiftLeft_eq]; omega), Nat.shiftLeft_eq]
end Go.Pv
namespace Go.Pv
/-! ### Kinds of characters, small letters, prepared texts -/
def blankC (v : Nat) : Bool := (decide (9 ≤ v) && decide (v ≤ 13)) || decide (v = 32) || decide (v = 133) || decide (v = 160)
def nothC (v : Nat) : Bool := (decide (v < 32) && !blankC v) || decide (v = 127) || decide (v = 173) || decide (v = 8203)
def kindN (v : Nat) : Nat := if blankC v then 0 else if nothC v then 1 else 2
theorem blank_noth (v : Nat) (h : blankC v = true) : nothC v = false := by
  simp only [blankC, nothC, Bool.or_eq_true, Bool.and_eq_true, decide_eq_true_eq, Bool.or_eq_false_iff, Bool.and_eq_false_iff, decide_eq_false_iff_not, Bool.not_eq_false'] at *
  omega
def capC (v : Nat) : Bool := (decide (65 ≤ v) && decide (v ≤ 90)) || (decide (192 ≤ v) && decide (v ≤ 222) && !decide (v = 215))
def smallM (v : Nat) (own : By) : By := if capC v then (Utf8.encode ((v : Int) + 32)).data.toList else own
def prepStep (ends letters : Bool) (st : Bool × By) (c : Nat × By) : Bool × By :=
  if kindN c.1 = 1 then st else if kindN c.1 = 0 then (true, st.2)
  else (false, st.2 ++ (if st.1 && (ends || !st.2.isEmpty) then [32] else []) ++ (if letters then smallM c.1 c.2 else c.2))
def prepR (ends letters : Bool) (cs : List (Nat × By)) : Bool × By := cs.foldl (prepStep ends letters) (false, [])
def prepC (ends letters : Bool) (cs : List (Nat × By)) : By := (prepR ends letters cs).2 ++ (if (prepR ends letters cs).1 && ends then [32] else [])
def prepM (ends letters : Bool) (l : By) : By := match chars l with
  | none => l
  | some cs => prepC ends letters cs
theorem prepR_snoc (ends letters : Bool) (cs : List (Nat × By)) (c : Nat × By) : prepR ends letters (cs ++ [c]) = prepStep ends letters (prepR ends letters cs) c := by
  simp [prepR, List.foldl_append]
theorem smallM_len (v : Nat) (own : By) (h : capC v = true) : (smallM v own).length ≤ 4 := by
  rw [smallM, if_pos h]
  simp only [capC, Bool.or_eq_true, Bool.and_eq_true, decide_eq_true_eq] at h
  have : v < 256 := by rcases h with h | h <;> omega
  have key : ∀ v : Nat, v < 256 → (Utf8.encode ((v : Int) + 32)).data.toList.length ≤ 4 := by decide +kernel
  exact key v this
theorem prepR_len (ends letters : Bool) : ∀ (cs : List (Nat × By)), (∀ c ∈ cs, c.2.length ≤ 4) → (prepR ends letters cs).2.length ≤ 5 * cs.length := by
  intro cs
  suffices h : ∀ (r : List (Nat × By)) (m : Nat) (st : Bool × By), (∀ c ∈ r, c.2.length ≤ 4) → st.2.length ≤ m → (r.foldl (prepStep ends letters) st).2.length ≤ m + 5 * r.length by
    intro hc
    have := h cs 0 (false, []) hc (by simp)
    simpa [prepR] using this
  intro r
  induction r with
  | nil => intro m st _ hm; simpa using hm
  | cons c r ih =>
    intro m st hc hm
    simp only [List.foldl_cons, List.length_cons]
    have h1 : (prepStep ends letters st c).2.length ≤ m + 5 := by
      unfold prepStep
      split
      · omega
      · split
        · simp only; omega
        · simp only [List.length_append]
          have h2 : (if letters then smallM c.1 c.2 else c.2).length ≤ 4 := by
            split
            · by_cases q : capC c.1 = true
              · exact smallM_len _ _ q
              · rw [smallM, if_neg q]; exact hc c (by simp)
            · exact hc c (by simp)
          have h3 : (if st.1 && (ends || !st.2.isEmpty) then [32] else ([] : By)).length ≤ 1 := by split <;> simp
          omega
    have := ih (m + 5) _ (fun x hx => hc x (by simp [hx])) h1
    omega
/-- The bytes of a character are at most four. -/
theorem chars_own : ∀ (f : Nat) (l : By) (cs : List (Nat × By)), charsF f l = some cs → ∀ c ∈ cs, c.2.length ≤ 4 := by
  intro f
  induction f with
  | zero => intro l cs h; cases l with
    | nil => cases h; simp
    | cons => cases h
  | succ f ih =>
    intro l cs h
    cases l with
    | nil => cases h; simp
    | cons c t =>
      simp only [charsF] at h
      cases hq : nextM (c :: t) with
      | none => rw [hq] at h; cases h
      | some p =>
        obtain ⟨v, n⟩ := p
        rw [hq] at h
        simp only [Option.map_eq_some_iff] at h
        obtain ⟨r, hr, rfl⟩ := h
        have := nextM_len hq
        intro x hx
        rcases List.mem_cons.1 hx with rfl | hx
        · simp; omega
        · exact ih _ _ hr x hx
/-- The bytes of a character with an accent. -/
def OwnC (v : Nat) (own : By) : Prop := 192 ≤ v → v ≤ 222 → own = [195, UInt8.ofNat (v - 64)]
theorem nextM_own {l : By} {v n : Nat} (h : nextM l = some (v, n)) : OwnC v (l.take n) := by
  intro h1 h2
  cases l with
  | nil => cases h
  | cons c t =>
    rw [nextM] at h
    by_cases a1 : (leadB c).1 = 0 ∨ t.length + 1 < (leadB c).1
    · rw [if_pos a1] at h; cases h
    rw [if_neg a1] at h
    by_cases a2 : (t.take ((leadB c).1 - 1)).all cont = false
    · rw [if_pos a2] at h; cases h
    rw [if_neg a2] at h
    by_cases a3 : badC (accum (leadB c).2.1 (t.take ((leadB c).1 - 1))) (leadB c).2.2 = true
    · rw [if_pos a3] at h; cases h
    rw [if_neg a3] at h
    simp only [Option.some.injEq, Prod.mk.injEq] at h
    obtain ⟨hv, rfl⟩ := h
    rw [hv] at a3
    simp only [badC, Bool.or_eq_true, Bool.and_eq_true, decide_eq_true_eq, not_or] at a3
    have hx := c.toNat_lt
    by_cases b1 : c.toNat < 128
    · have hq : leadB c = (1, c.toNat, 0) := by simp [leadB, b1]
      rw [hq] at hv
      simp [accum] at hv
      omega
    by_cases b2 : c.toNat / 32 = 6
    · have hq : leadB c = (2, c.toNat % 32, 128) := by simp [leadB, b1, b2]
      rw [hq] at hv a1 a2 ⊢
      cases t with
      | nil => simp at a1
      | cons x t =>
        simp [accum] at hv
        simp [cont] at a2
        have hxl := x.toNat_lt
        have e1 : c.toNat = 195 := by omega
        have e2 : x.toNat = v - 64 := by omega
        have e3 : c = 195 := UInt8.toNat_inj.1 (by rw [e1]; rfl)
        have e4 : x = UInt8.ofNat (v - 64) := by rw [← e2]; simp
        simp [e3, e4]
    by_cases b3 : c.toNat / 16 = 14
    · have hq : leadB c = (3, c.toNat % 16, 2048) := by simp [leadB, b1, b2, b3]
      rw [hq] at a3; simp only at a3; omega
    by_cases b4 : c.toNat / 8 = 30
    · have hq : leadB c = (4, c.toNat % 8, 65536) := by simp [leadB, b1, b2, b3, b4]
      rw [hq] at a3; simp only at a3; omega
    · have hq : leadB c = (0, 0, 0) := by simp [leadB, b1, b2, b3, b4]
      rw [hq] at a1; simp at a1
theorem encode_small (v : Nat) (h1 : 65 ≤ v) (h2 : v ≤ 90) : (Utf8.encode ((v : Int) + 32)).data.toList = [UInt8.ofNat (v + 32)] := by
  have key : ∀ v : Nat, v < 91 → 65 ≤ v → (Utf8.encode ((v : Int) + 32)).data.toList = [UInt8.ofNat (v + 32)] := by decide +kernel
  exact key v (by omega) h1
theorem encode_accent (v : Nat) (h1 : 192 ≤ v) (h2 : v ≤ 222) : (Utf8.encode ((v : Int) + 32)).data.toList = [195, UInt8.ofNat (v - 32)] := by
  have key : ∀ v : Nat, v < 223 → 192 ≤ v → (Utf8.encode ((v : Int) + 32)).data.toList = [195, UInt8.ofNat (v - 32)] := by decide +kernel
  exact key v (by omega) h1
theorem smallM_pos (v : Nat) (own : By) (h : own ≠ []) : smallM v own ≠ [] := by
  by_cases q : capC v = true
  · rw [smallM, if_pos q]
    simp only [capC, Bool.or_eq_true, Bool.and_eq_true, decide_eq_true_eq] at q
    rcases q with q | q
    · rw [encode_small v (by omega) (by omega)]; simp
    · rw [encode_accent v (by omega) (by omega)]; simp
  · rw [smallM, if_neg q]; exact h
end Go.Pv
