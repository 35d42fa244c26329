/- A part of the proof: functions of the program, walked, or what operations come to. -/
import Derived.Test.YtnmpinbfddjhmaaGreatPvP7
import Derived.Test.YtnmpinbfddjhmaaGreatPvVA0
namespace Go.Pv
/-! ### Bytes in order: plain laws -/
theorem u8lt (a b : UInt8) : (a < b) = (a.toNat < b.toNat) := propext UInt8.lt_iff_toNat_lt
theorem u8ext {a b : UInt8} (h : a.toNat = b.toNat) : a = b := UInt8.toNat_inj.1 h
theorem cmpL_cons (x y : UInt8) (a b : By) : cmpL (x :: a) (y :: b) = if x.toNat < y.toNat then -1 else if y.toNat < x.toNat then 1 else cmpL a b := by
  show (if x < y then _ else if y < x then _ else _) = _
  simp only [u8lt]
  rfl
theorem less_cons (x y : UInt8) (a b : By) : Op.bytesLess (x :: a) (y :: b) = (decide (x.toNat < y.toNat) || (x == y && Op.bytesLess a b)) := by
  show (decide (x < y) || _) = _
  simp only [u8lt]
theorem cmpL_anti : ∀ a b : By, cmpL b a = -cmpL a b
  | [], [] => rfl
  | [], _ :: _ => rfl
  | _ :: _, [] => rfl
  | x :: a, y :: b => by
    have ih := cmpL_anti a b
    simp only [cmpL_cons]
    by_cases h1 : x.toNat < y.toNat
    · rw [if_neg (by omega), if_pos h1, if_pos h1]; rfl
    · by_cases h2 : y.toNat < x.toNat
      · rw [if_pos h2, if_neg h1, if_pos h2]
      · rw [if_neg h2, if_neg h1, if_neg h1, if_neg h2]; exact ih
theorem cmpL_eq : ∀ a b : By, cmpL a b = 0 ↔ a = b
  | [], [] => by simp [cmpL, Lib.compareBytes]
  | [], _ :: _ => by simp [cmpL, Lib.compareBytes]
  | _ :: _, [] => by simp [cmpL, Lib.compareBytes]
  | x :: a, y :: b => by
    have ih := cmpL_eq a b
    simp only [cmpL_cons]
    by_cases h1 : x.toNat < y.toNat
    · rw [if_pos h1]; constructor
      · intro h; cases h
      · intro h; cases h; omega
    · by_cases h2 : y.toNat < x.toNat
      · rw [if_neg h1, if_pos h2]; constructor
        · intro h; cases h
        · intro h; cases h; omega
      · rw [if_neg h1, if_neg h2, ih]
        have : x = y := u8ext (by omega)
        subst this
        simp
theorem cmpL_bound : ∀ a b : By, -1 ≤ cmpL a b ∧ cmpL a b ≤ 1
  | [], [] => by simp [cmpL, Lib.compareBytes]
  | [], _ :: _ => by simp [cmpL, Lib.compareBytes]
  | _ :: _, [] => by simp [cmpL, Lib.compareBytes]
  | x :: a, y :: b => by
    have ih := cmpL_bound a b
    rw [cmpL_cons]
    split
    · omega
    · split
      · omega
      · exact ih
theorem cmpL_tr : ∀ a b c : By, cmpL a b ≤ 0 → cmpL b c ≤ 0 → cmpL a c ≤ 0
  | [], _, [], _, _ => by simp [cmpL, Lib.compareBytes]
  | [], _, _ :: _, _, _ => by simp [cmpL, Lib.compareBytes]
  | _ :: _, [], _, h, _ => by simp [cmpL, Lib.compareBytes] at h
  | _ :: _, _ :: _, [], _, h => by simp [cmpL, Lib.compareBytes] at h
  | x :: a, y :: b, z :: c, h1, h2 => by
    have ih := cmpL_tr a b c
    simp only [cmpL_cons] at *
    by_cases k1 : x.toNat < y.toNat
    · by_cases k2 : y.toNat < z.toNat
      · rw [if_pos (by omega)]; decide
      · rw [if_neg k2] at h2
        by_cases k3 : z.toNat < y.toNat
        · rw [if_pos k3] at h2; simp at h2
        · rw [if_pos (by omega)]; decide
    · rw [if_neg k1] at h1
      by_cases k3 : y.toNat < x.toNat
      · rw [if_pos k3] at h1; simp at h1
      · rw [if_neg k3] at h1
        by_cases k2 : y.toNat < z.toNat
        · rw [if_pos (by omega)]; decide
        · rw [if_neg k2] at h2
          by_cases k4 : z.toNat < y.toNat
          · rw [if_pos k4] at h2; simp at h2
          · rw [if_neg k4] at h2
            rw [if_neg (by omega), if_neg (by omega)]
            exact ih h1 h2
theorem less_cmp : ∀ a b : By, Op.bytesLess a b = decide (cmpL a b < 0)
  | [], [] => rfl
  | [], _ :: _ => rfl
  | _ :: _, [] => rfl
  | x :: a, y :: b => by
    have ih := less_cmp a b
    rw [cmpL_cons, less_cons]
    by_cases h1 : x.toNat < y.toNat
    · simp [h1]
    · by_cases h2 : y.toNat < x.toNat
      · have : (x == y) = false := by simp; intro e; subst e; omega
        simp [h1, h2, this]
      · have : (x == y) = true := by simp; exact u8ext (by omega)
        simp [h1, h2, ih, this]
end Go.Pv
namespace Go.Pv
/-! ### Whole numbers in order: plain laws -/
theorem ordI_t : ordI true = -1 := rfl
theorem ordI_f : ordI false = 1 := rfl
def wle (b : Bool) (ds : By) (c : Bool) (es : By) : Prop := match b, c with
  | true, false => True
  | false, true => False
  | false, false => ds.length < es.length ∨ (ds.length = es.length ∧ cmpL ds es ≤ 0)
  | true, true => es.length < ds.length ∨ (ds.length = es.length ∧ cmpL es ds ≤ 0)
theorem wcmp_some (b : Bool) (ds : By) (c : Bool) (es : By) : wcmp (some (b, ds)) (some (c, es)) = if b = c ∧ ds = es then 0 else if b != c then ordI b else if ds.length ≠ es.length then ordI (decide (ds.length < es.length) != b) else ordI (Op.bytesLess ds es != b) := rfl
theorem wcmp_le (b : Bool) (ds : By) (c : Bool) (es : By) : wcmp (some (b, ds)) (some (c, es)) ≤ 0 ↔ wle b ds c es := by
  rw [wcmp_some]
  by_cases h0 : ds = es
  · subst h0
    have := (cmpL_eq ds ds).2 rfl
    cases b <;> cases c <;> simp [wle, ordI, this]
  · rw [less_cmp]
    have ha := cmpL_anti ds es
    have hb := cmpL_bound ds es
    have hz : cmpL ds es ≠ 0 := fun q => h0 ((cmpL_eq ds es).1 q)
    by_cases hl : ds.length = es.length
    · by_cases hc : cmpL ds es < 0
      · have h3 : cmpL ds es ≤ 0 := by omega
        have h4 : ¬ cmpL es ds ≤ 0 := by omega
        cases b <;> cases c <;> simp [wle, ordI, hl, hc, h0, h3, h4]
      · have h3 : ¬ cmpL ds es ≤ 0 := by omega
        have h4 : cmpL es ds ≤ 0 := by omega
        cases b <;> cases c <;> simp [wle, ordI, hl, hc, h0, h3, h4]
    · by_cases hc : ds.length < es.length
      · have h3 : ¬ es.length < ds.length := by omega
        cases b <;> cases c <;> simp [wle, ordI, hl, hc, h0, h3]
      · have h3 : es.length < ds.length := by omega
        cases b <;> cases c <;> simp [wle, ordI, hl, hc, h0, h3]
theorem wcmp_anti (x y : Option (Bool × By)) : wcmp y x = -wcmp x y := by
  rcases x with _ | ⟨b, ds⟩ <;> rcases y with _ | ⟨c, es⟩
  · rfl
  · rfl
  · rfl
  · rw [wcmp_some, wcmp_some]
    by_cases h0 : ds = es
    · subst h0
      cases b <;> cases c <;> simp [ordI]
    · have h0' : ¬ es = ds := fun q => h0 q.symm
      rw [less_cmp, less_cmp]
      have ha := cmpL_anti ds es
      have hb := cmpL_bound ds es
      have hz : cmpL ds es ≠ 0 := fun q => h0 ((cmpL_eq ds es).1 q)
      by_cases hl : ds.length = es.length
      · by_cases hc : cmpL ds es < 0
        · have hd : ¬ cmpL es ds < 0 := by omega
          cases b <;> cases c <;> simp [ordI, hl, hc, hd, h0, h0']
        · have hd : cmpL es ds < 0 := by omega
          cases b <;> cases c <;> simp [ordI, hl, hc, hd, h0, h0']
      · have hl' : ¬ es.length = ds.length := fun q => hl q.symm
        by_cases hc : ds.length < es.length
        · have hd : ¬ es.length < ds.length := by omega
          cases b <;> cases c <;> simp [ordI, hl, hl', hc, hd, h0, h0']
        · have hd : es.length < ds.length := by omega
          cases b <;> cases c <;> simp [ordI, hl, hl', hc, hd, h0, h0']
theorem ordI_b (b : Bool) : ordI b ≠ 0 ∧ -1 ≤ ordI b ∧ ordI b ≤ 1 := by cases b <;> decide
theorem wcmp_eq (p q : Bool × By) : wcmp (some p) (some q) = 0 ↔ p = q := by
  obtain ⟨b, ds⟩ := p
  obtain ⟨c, es⟩ := q
  rw [wcmp_some]
  by_cases h : b = c ∧ ds = es
  · rw [if_pos h, h.1, h.2]; simp
  · rw [if_neg h]
    constructor
    · intro q
      exfalso
      split at q
      · exact (ordI_b _).1 q
      · split at q
        · exact (ordI_b _).1 q
        · exact (ordI_b _).1 q
    · intro q; cases q; exact absurd ⟨rfl, rfl⟩ h
theorem wcmp_bound (x y : Option (Bool × By)) : -1 ≤ wcmp x y ∧ wcmp x y ≤ 1 := by
  rcases x with _ | ⟨b, ds⟩ <;> rcases y with _ | ⟨c, es⟩
  · decide
  · show -1 ≤ ordI true ∧ ordI true ≤ 1; decide
  · show -1 ≤ ordI false ∧ ordI false ≤ 1; decide
  · rw [wcmp_some]
    split
    · decide
    · split
      · exact (ordI_b _).2
      · split
        · exact (ordI_b _).2
        · exact (ordI_b _).2
theorem wcmp_tr (p q r : Bool × By) (h1 : wcmp (some p) (some q) ≤ 0) (h2 : wcmp (some q) (some r) ≤ 0) : wcmp (some p) (some r) ≤ 0 := by
  obtain ⟨b, ds⟩ := p
  obtain ⟨c, es⟩ := q
  obtain ⟨d, fs⟩ := r
  rw [wcmp_le] at *
  cases b <;> cases c <;> cases d <;> simp only [wle] at * <;> try trivial
  · rcases h1 with h1 | ⟨h1, k1⟩ <;> rcases h2 with h2 | ⟨h2, k2⟩
    · left; omega
    · left; omega
    · left; omega
    · right; exact ⟨by omega, cmpL_tr _ _ _ k1 k2⟩
  · rcases h1 with h1 | ⟨h1, k1⟩ <;> rcases h2 with h2 | ⟨h2, k2⟩
    · left; omega
    · left; omega
    · left; omega
    · right; exact ⟨by omega, cmpL_tr _ _ _ k2 k1⟩
theorem sized_eq (l : By) : sizedM l = if digsB (unsign l) = true then some (preB l [45] && !((unsign l).dropWhile (· == 48)).isEmpty, (unsign l).dropWhile (· == 48)) else none := by
  show (if digsB (unsign l) = true then _ else none) = _
  split
  · rfl
  · rfl
theorem sized_plain {l : By} {x : Bool × By} (h : sizedM l = some x) : sizedM (plainM l) = some x := by
  obtain ⟨b, ds⟩ := x
  have hs := sizedM_shape h
  have hall : ds.all isDig = true := by
    rw [sized_eq] at h
    split at h
    · rename_i hd
      simp only [Option.some.injEq, Prod.mk.injEq] at h
      rw [← h.2]
      simp only [digsB, Bool.and_eq_true] at hd
      exact List.all_eq_true.2 fun y hy => List.all_eq_true.1 hd.2 y ((List.dropWhile_sublist _).mem hy)
    · cases h
  have hp : plainM l = if ds.length = 0 then [48] else if b then 45 :: ds else ds := by rw [plainM, h]
  rw [hp]
  cases hs with
  | zero => rfl
  | num _ x ds h1 h2 =>
    have hx : (x == 48) = false := by
      simp only [beq_eq_false_iff_ne, ne_eq]
      intro e; subst e; simp at h1
    have h45 : ¬ x = 45 := by intro e; subst e; simp at h1
    cases b
    · simp only [List.length_cons, Nat.add_eq_zero_iff, Nat.succ_ne_zero, and_false, if_false, Bool.false_eq_true]
      have hu : unsign (x :: ds) = x :: ds := by
        unfold unsign
        rw [preB_one]
        simp [h45]
      have hpb : preB (x :: ds) [45] = false := by rw [preB_one]; simp [h45]
      rw [sized_eq, hu, hpb]
      rw [if_pos (by simp only [digsB]; rw [hall]; rfl), List.dropWhile_cons, hx]
      rfl
    · simp only [List.length_cons, Nat.add_eq_zero_iff, Nat.succ_ne_zero, and_false, if_false, if_true]
      have hpb : preB (45 :: x :: ds) [45] = true := by rw [preB_one]; rfl
      have hu : unsign (45 :: x :: ds) = x :: ds := by unfold unsign; rw [hpb]; rfl
      rw [sized_eq, hu, hpb]
      rw [if_pos (by simp only [digsB]; rw [hall]; rfl), List.dropWhile_cons, hx]
      rfl
theorem plain_eq {a b : By} {x y : Bool × By} (ha : sizedM a = some x) (hb : sizedM b = some y) : plainM a = plainM b ↔ x = y := by
  constructor
  · intro h
    have h1 := sized_plain ha
    rw [h, sized_plain hb] at h1
    exact (Option.some.inj h1).symm
  · intro h
    subst h
    unfold plainM
    rw [ha, hb]
end Go.Pv
namespace Go.Pv
/-! ### Floats in order: plain laws -/
def bF : Nat := 4503599627370496
def infF : Nat := 2047 * bF
def rungF (w : Nat) : Nat := w % 9223372036854775808
def sgF (w : Nat) : Bool := w / 9223372036854775808 % 2 == 1
def magF (r : Nat) : Nat := if r < bF then r else bF + r % bF
def exF (r : Nat) : Nat := if r < bF then 0 else r / bF - 1
def gF (r : Nat) : Nat := magF r * 2 ^ exF r
def sI (s : Bool) (g : Nat) : Int := if s then -(g : Int) else (g : Int)
def keyF (w : Nat) : Int := sI (sgF w) (gF (rungF w))
theorem mag_lo (r : Nat) (h : ¬ r < bF) : bF ≤ magF r ∧ magF r < 2 * bF := by
  have := Nat.mod_lt r (show 0 < bF by decide)
  unfold magF
  rw [if_neg h]
  omega
theorem gF_mono {r t : Nat} (h : r < t) : gF r < gF t := by
  have h0 : 0 < bF := by decide
  by_cases hr : r < bF
  · by_cases ht : t < bF
    · simp [gF, magF, exF, hr, ht]; exact h
    · have := mag_lo t ht
      have hp : 1 ≤ 2 ^ exF t := Nat.one_le_two_pow
      have h1 : gF r = r := by simp [gF, magF, exF, hr]
      have h2 : magF t * 1 ≤ gF t := Nat.mul_le_mul_left _ hp
      omega
  · have ht : ¬ t < bF := by omega
    have hq : r / bF ≤ t / bF := Nat.div_le_div_right (by omega)
    have h1r : 1 ≤ r / bF := by rw [Nat.le_div_iff_mul_le h0]; omega
    have e1 : exF r = r / bF - 1 := by simp [exF, hr]
    have e2 : exF t = t / bF - 1 := by simp [exF, ht]
    rcases Nat.lt_or_ge (r / bF) (t / bF) with hlt | hge
    · have m1 := (mag_lo r hr).2
      have m2 := (mag_lo t ht).1
      have hle : 2 * 2 ^ exF r ≤ 2 ^ exF t := by
        rw [← Nat.pow_succ', e1, e2]
        exact Nat.pow_le_pow_right (by decide) (by omega)
      have hp : 0 < 2 ^ exF r := Nat.two_pow_pos _
      calc gF r = magF r * 2 ^ exF r := rfl
        _ < 2 * bF * 2 ^ exF r := Nat.mul_lt_mul_of_pos_right m1 hp
        _ = bF * (2 * 2 ^ exF r) := by rw [Nat.mul_comm 2 bF, Nat.mul_assoc]
        _ ≤ bF * 2 ^ exF t := Nat.mul_le_mul_left _ hle
        _ ≤ magF t * 2 ^ exF t := Nat.mul_le_mul_right _ m2
    · have he : r / bF = t / bF := by omega
      have d1 := Nat.div_add_mod r bF
      have d2 := Nat.div_add_mod t bF
      have hm : r % bF < t % bF := by rw [he] at d1; omega
      have : magF r < magF t := by simp [magF, hr, ht]; exact hm
      unfold gF
      rw [e1, e2, he]
      exact Nat.mul_lt_mul_of_pos_right this (Nat.two_pow_pos _)
theorem gF_inj {r t : Nat} (h : gF r = gF t) : r = t := by
  rcases Nat.lt_trichotomy r t with q | q | q
  · have := gF_mono q; omega
  · exact q
  · have := gF_mono q; omega
/-- What a word stands for. -/
theorem read_eq (w : Nat) : Ieee.double.read w = if rungF w < infF then .number (sgF w) (magF (rungF w)) (-1074 + (exF (rungF w) : Int)) else if rungF w = infF then .infinity (sgF w) else .nan (sgF w) (rungF w - infF) := by
  have hsw : Ieee.double.signWeight = 9223372036854775808 := by decide +kernel
  have hb : Ieee.double.binade = bF := by decide +kernel
  have hi : Ieee.double.infRung = infF := by decide +kernel
  have hl : Ieee.double.leastPlace = -1074 := by decide +kernel
  unfold Ieee.Format.read
  rw [hsw, hb, hi, hl]
  show (if rungF w < bF then Ieee.Datum.number (sgF w) (rungF w) (-1074) else if rungF w < infF then Ieee.Datum.number (sgF w) (bF + rungF w % bF) (-1074 + ((rungF w / bF - 1 : Nat) : Int)) else if rungF w = infF then Ieee.Datum.infinity (sgF w) else Ieee.Datum.nan (sgF w) (rungF w - infF)) = _
  by_cases h1 : rungF w < bF
  · have h2 : rungF w < infF := Nat.lt_trans h1 (by decide)
    rw [if_pos h1, if_pos h2]
    simp only [magF, exF, if_pos h1]
    try rfl
  · rw [if_neg h1]
    by_cases h2 : rungF w < infF
    · rw [if_pos h2, if_pos h2]
      simp only [magF, exF, if_neg h1]
      try rfl
    · rw [if_neg h2, if_neg h2]
      try rfl
def isNanF (w : Nat) : Prop := infF < rungF w
instance (w : Nat) : Decidable (isNanF w) := inferInstanceAs (Decidable (infF < rungF w))
theorem compare_mul (a b : Int) (k : Nat) : compare (a * (2 ^ k : Nat)) (b * (2 ^ k : Nat)) = compare a b := by
  have hp : (0 : Int) < ((2 ^ k : Nat) : Int) := by exact_mod_cast Nat.two_pow_pos k
  simp only [compare, compareOfLessAndEq]
  by_cases h1 : a < b
  · rw [if_pos h1, if_pos (Int.mul_lt_mul_of_pos_right h1 hp)]
  · have h2 : ¬ a * ((2 ^ k : Nat) : Int) < b * ((2 ^ k : Nat) : Int) := by
      intro h
      exact h1 (Int.lt_of_mul_lt_mul_right h (Int.le_of_lt hp))
    rw [if_neg h1, if_neg h2]
    by_cases h3 : a = b
    · rw [if_pos h3, h3, if_pos rfl]
    · have h4 : ¬ a * ((2 ^ k : Nat) : Int) = b * ((2 ^ k : Nat) : Int) := fun h => h3 (Int.eq_of_mul_eq_mul_right (by omega) h)
      rw [if_neg h3, if_neg h4]
theorem signed_mul (s : Bool) (m e n : Nat) (h : n ≤ e) : Ieee.signed s m (e - n) * ((2 ^ n : Nat) : Int) = sI s (m * 2 ^ e) := by
  have hm : m <<< (e - n) * 2 ^ n = m * 2 ^ e := by rw [Nat.shiftLeft_eq, Nat.mul_assoc, ← Nat.pow_add, Nat.sub_add_cancel h]
  unfold Ieee.signed sI
  cases s
  · simp only [Bool.false_eq_true, if_false]
    rw [← Int.natCast_mul, hm]
  · simp only [if_true]
    rw [Int.neg_mul, ← Int.natCast_mul, hm]
theorem cmp_lt {a b : Int} (h : a < b) : compare a b = .lt := by simp only [compare, compareOfLessAndEq]; rw [if_pos h]
theorem cmp_gt {a b : Int} (h : b < a) : compare a b = .gt := by simp only [compare, compareOfLessAndEq]; rw [if_neg (by omega), if_neg (by omega)]
theorem cmp_eq {a b : Int} (h : a = b) : compare a b = .eq := by simp only [compare, compareOfLessAndEq]; rw [if_neg (by omega), if_pos h]
theorem order_key (x y : Nat) (hx : ¬ isNanF x) (hy : ¬ isNanF y) : Ieee.double.order x y = some (compare (keyF x) (keyF y)) := by
  unfold Ieee.Format.order
  rw [read_eq, read_eq]
  unfold isNanF at hx hy
  unfold keyF
  generalize sgF x = s at *
  generalize sgF y = t at *
  generalize rungF x = r at *
  generalize rungF y = q at *
  by_cases h1 : r < infF
  · rw [if_pos h1]
    by_cases h2 : q < infF
    · rw [if_pos h2]
      show some (compare (Ieee.signed _ _ _) (Ieee.signed _ _ _)) = _
      congr 1
      have hmin : min (-1074 + (exF r : Int)) (-1074 + (exF q : Int)) = -1074 + ((min (exF r) (exF q) : Nat) : Int) := by omega
      rw [hmin]
      have e1 : (-1074 + (exF r : Int) - (-1074 + ((min (exF r) (exF q) : Nat) : Int))).toNat = exF r - min (exF r) (exF q) := by omega
      have e2 : (-1074 + (exF q : Int) - (-1074 + ((min (exF r) (exF q) : Nat) : Int))).toNat = exF q - min (exF r) (exF q) := by omega
      rw [e1, e2, ← compare_mul _ _ (min (exF r) (exF q)), signed_mul _ _ _ _ (by omega), signed_mul _ _ _ _ (by omega)]
      rfl
    · have h3 : q = infF := by omega
      subst h3
      rw [if_neg h2, if_pos rfl]
      have hm := gF_mono h1
      show some (if t then Ordering.gt else Ordering.lt) = _
      congr 1
      cases t
      · rw [cmp_lt]; rfl
        cases s <;> simp [sI] <;> omega
      · rw [cmp_gt]; rfl
        cases s <;> simp [sI] <;> omega
  · have h3 : r = infF := by omega
    subst h3
    rw [if_neg h1, if_pos rfl]
    by_cases h2 : q < infF
    · rw [if_pos h2]
      have hm := gF_mono h2
      show some (if s then Ordering.lt else Ordering.gt) = _
      congr 1
      cases s
      · rw [cmp_gt]; rfl
        cases t <;> simp [sI] <;> omega
      · rw [cmp_lt]; rfl
        cases t <;> simp [sI] <;> omega
    · have h4 : q = infF := by omega
      subst h4
      rw [if_neg h2, if_pos rfl]
      have hg : 0 < gF infF := by have := gF_mono (show 0 < infF by decide); omega
      show some (compare t.toNat s.toNat) = _
      congr 1
      cases s <;> cases t
      · rw [cmp_eq rfl]; rfl
      · rw [cmp_gt (by simp [sI]; omega)]; rfl
      · rw [cmp_lt (by simp [sI]; omega)]; rfl
      · rw [cmp_eq rfl]; rfl
theorem order_nan (x y : Nat) (h : isNanF x ∨ isNanF y) : Ieee.double.order x y = none := by
  have hn : ∀ w, isNanF w → ∃ s f, Ieee.double.read w = .nan s f := fun w hw => by
    rw [read_eq, if_neg (by unfold isNanF at hw; omega), if_neg (by unfold isNanF at hw; omega)]; exact ⟨_, _, rfl⟩
  unfold Ieee.Format.order
  rcases h with h | h
  · obtain ⟨s, f, e⟩ := hn x h
    rw [e]; cases Ieee.double.read y <;> rfl
  · obtain ⟨s, f, e⟩ := hn y h
    rw [e]; cases Ieee.double.read x <;> rfl
theorem nanB_iff (x : Nat) : nanB x = true ↔ isNanF x := by
  show (!(Ieee.double.order x x == some .eq)) = true ↔ _
  by_cases h : isNanF x
  · rw [order_nan x x (.inl h)]; simp [h]
  · rw [order_key x x h h, cmp_eq rfl]; simp [h]
theorem gtF_iff {x y : Nat} (hx : ¬ isNanF x) (hy : ¬ isNanF y) : gtF x y = decide (keyF y < keyF x) := by
  show (Ieee.double.order x y == some .gt) = _
  rw [order_key x y hx hy]
  rcases Int.lt_trichotomy (keyF x) (keyF y) with h | h | h
  · rw [cmp_lt h, decide_eq_false (by omega)]; rfl
  · rw [cmp_eq h, decide_eq_false (by omega)]; rfl
  · rw [cmp_gt h, decide_eq_true h]; rfl
theorem ltF_iff {x y : Nat} (hx : ¬ isNanF x) (hy : ¬ isNanF y) : ltF x y = decide (keyF x < keyF y) := by
  show (Ieee.double.order x y == some .lt) = _
  rw [order_key x y hx hy]
  rcases Int.lt_trichotomy (keyF x) (keyF y) with h | h | h
  · rw [cmp_lt h, decide_eq_true h]; rfl
  · rw [cmp_eq h, decide_eq_false (by omega)]; rfl
  · rw [cmp_gt h, decide_eq_false (by omega)]; rfl
theorem zeroF_iff {x : Nat} (hx : ¬ isNanF x) : Op.floatEq .f64 x 0 = decide (keyF x = 0) := by
  have h0 : ¬ isNanF 0 := by decide +kernel
  have k0 : keyF 0 = 0 := by decide +kernel
  show (Ieee.double.order x 0 == some .eq) = _
  rw [order_key x 0 hx h0, k0]
  rcases Int.lt_trichotomy (keyF x) 0 with h | h | h
  · rw [cmp_lt h, decide_eq_false (by omega)]; rfl
  · rw [cmp_eq h, decide_eq_true h]; rfl
  · rw [cmp_gt h, decide_eq_false (by omega)]; rfl
/-- The order of two numbers. -/
theorem orderF_of (x y : Nat) : orderF x y = if isNanF x ∧ isNanF y then 0 else if isNanF x then 1 else if isNanF y then -1 else if keyF y < keyF x then 1 else if keyF x < keyF y then -1 else 0 := by
  unfold orderF
  by_cases hx : isNanF x <;> by_cases hy : isNanF y
  · simp [(nanB_iff x).2 hx, (nanB_iff y).2 hy, hx, hy]
  · have : nanB y = false := by cases q : nanB y with | false => rfl | true => exact absurd ((nanB_iff y).1 q) hy
    simp [(nanB_iff x).2 hx, this, hx, hy]
  · have : nanB x = false := by cases q : nanB x with | false => rfl | true => exact absurd ((nanB_iff x).1 q) hx
    simp [(nanB_iff y).2 hy, this, hx, hy]
  · have h1 : nanB y = false := by cases q : nanB y with | false => rfl | true => exact absurd ((nanB_iff y).1 q) hy
    have h2 : nanB x = false := by cases q : nanB x with | false => rfl | true => exact absurd ((nanB_iff x).1 q) hx
    simp [h1, h2, hx, hy, gtF_iff hx hy, ltF_iff hx hy]
theorem orderF_anti (x y : Nat) : orderF y x = -orderF x y := by
  rw [orderF_of, orderF_of]
  by_cases hx : isNanF x <;> by_cases hy : isNanF y <;> simp [hx, hy]
  rcases Int.lt_trichotomy (keyF x) (keyF y) with h | h | h
  · rw [if_pos h, if_neg (by omega), if_pos h]; rfl
  · rw [h]; simp
  · rw [if_neg (by omega), if_pos h, if_pos h]
theorem orderF_bound (x y : Nat) : -1 ≤ orderF x y ∧ orderF x y ≤ 1 := by
  rw [orderF_of]
  repeat (split; decide)
  decide
theorem orderF_tr (x y z : Nat) (h1 : orderF x y ≤ 0) (h2 : orderF y z ≤ 0) : orderF x z ≤ 0 := by
  rw [orderF_of] at *
  by_cases hx : isNanF x <;> by_cases hy : isNanF y <;> by_cases hz : isNanF z <;> simp [hx, hy, hz] at *
  rcases Int.lt_trichotomy (keyF x) (keyF z) with h | h | h
  · rw [if_neg (by omega), if_pos h]; decide
  · rw [h]; simp
  · exfalso
    rcases Int.lt_trichotomy (keyF x) (keyF y) with q | q | q
    · rw [if_pos (by omega)] at h2; simp at h2
    · rw [if_pos (by omega)] at h2; simp at h2
    · rw [if_pos q] at h1; simp at h1
/-- A number as it is held. -/
def canonF (x : Nat) : Prop := x < 18446744073709551616 ∧ (isNanF x → x = 9221120237041090560) ∧ (¬ isNanF x → keyF x = 0 → x = 0)
theorem plainF_canon {u : Nat} (h : u < 18446744073709551616) : canonF (plainF u) := by
  unfold plainF
  cases hn : nanB u with
  | true =>
    simp only [if_true]
    exact ⟨by decide, fun _ => rfl, fun q => absurd (by decide +kernel) q⟩
  | false =>
    have hu : ¬ isNanF u := fun q => by rw [(nanB_iff u).2 q] at hn; cases hn
    simp only [Bool.false_eq_true, if_false]
    rw [zeroF_iff hu]
    by_cases hk : keyF u = 0
    · rw [decide_eq_true hk]
      simp only [if_true]
      exact ⟨by decide, fun q => absurd q (by decide +kernel), fun _ _ => rfl⟩
    · rw [decide_eq_false hk]
      simp only [Bool.false_eq_true, if_false]
      exact ⟨h, fun q => absurd q hu, fun _ q => absurd q hk⟩
theorem orderF_eq {x y : Nat} (hx : canonF x) (hy : canonF y) : orderF x y = 0 ↔ x = y := by
  constructor
  · intro h
    rw [orderF_of] at h
    by_cases nx : isNanF x <;> by_cases ny : isNanF y <;> simp [nx, ny] at h
    · rw [hx.2.1 nx, hy.2.1 ny]
    · have hk : keyF x = keyF y := by
        rcases Int.lt_trichotomy (keyF x) (keyF y) with q | q | q
        · rw [if_neg (by omega), if_pos q] at h; simp at h
        · exact q
        · rw [if_pos q] at h; simp at h
      by_cases hz : keyF x = 0
      · rw [hx.2.2 nx hz, hy.2.2 ny (by omega)]
      · have hw : ∀ w, w < 18446744073709551616 → w = (if sgF w then 9223372036854775808 else 0) + rungF w := fun w hw => by
          unfold sgF rungF
          have h1 := Nat.div_add_mod w 9223372036854775808
          have h2 : w / 9223372036854775808 < 2 := by omega
          by_cases q : w / 9223372036854775808 = 1
          · rw [q] at h1 ⊢; simp; omega
          · have : w / 9223372036854775808 = 0 := by omega
            rw [this] at h1 ⊢; simp; omega
        unfold keyF sI at hk hz
        have hs : sgF x = sgF y := by
          cases sx : sgF x <;> cases sy : sgF y <;> simp [sx, sy] at hk hz ⊢ <;> omega
        have hr : gF (rungF x) = gF (rungF y) := by
          rw [hs] at hk
          cases sy : sgF y <;> simp [sy] at hk <;> omega
        rw [hw x hx.1, hw y hy.1, hs, gF_inj hr]
  · intro h
    subst h
    rw [orderF_of]
    by_cases nx : isNanF x <;> simp [nx]
/-! ### A number's digits are read back -/
theorem hex_hexT : ∀ i : Nat, i < 16 → hexM (hexT.getD i 0) = some i := by decide +kernel
theorem hex_nib (n k : Nat) : hexM (nibF n k) = some (n / 16 ^ (15 - k) % 16) := hex_hexT _ (Nat.mod_lt _ (by decide))
theorem hexV_nibs (n : Nat) (hn : n < 16 ^ 16) : ∀ k, k ≤ 16 → hexV ((List.range k).map (nibF n)) = n / 16 ^ (16 - k)
  | 0, _ => by
    rw [Nat.div_eq_of_lt hn]; rfl
  | k + 1, h => by
    have ih := hexV_nibs n hn k (by omega)
    rw [List.range_succ, List.map_append]
    show hexV (_ ++ [nibF n k]) = _
    unfold hexV at *
    rw [List.foldl_append, ih]
    show n / 16 ^ (16 - k) * 16 + (hexM (nibF n k)).getD 0 = _
    rw [hex_nib]
    have e1 : 16 - k = 15 - k + 1 := by omega
    have e2 : 16 - (k + 1) = 15 - k := by omega
    rw [e1, e2, Nat.pow_succ, ← Nat.div_div_eq_div_mul]
    show n / 16 ^ (15 - k) / 16 * 16 + n / 16 ^ (15 - k) % 16 = n / 16 ^ (15 - k)
    omega
theorem parse_text (n : Nat) (hn : n < 18446744073709551616) : parseM (textF n) = some n := by
  have h1 : (textF n).length = 16 := by simp [textF]
  have h2 : hexAll (textF n) = true := List.all_eq_true.2 fun c hc => by
    obtain ⟨k, _, rfl⟩ := List.mem_map.1 hc
    rw [hex_nib]; rfl
  have h3 : hexV (textF n) = n := by
    have := hexV_nibs n (by simpa using hn) 16 (Nat.le_refl _)
    simpa [textF] using this
  rw [parseM, if_pos ⟨h1, h2⟩, h3]
theorem parse_lt {l : By} {n : Nat} (h : parseM l = some n) : n < 18446744073709551616 := by
  unfold parseM at h
  split at h
  · rename_i q
    cases h
    have := hexV_lt l
    rw [q.1] at this
    simpa using this
  · cases h
theorem text_inj {x y : Nat} (hx : x < 18446744073709551616) (hy : y < 18446744073709551616) : textF x = textF y ↔ x = y := by
  constructor
  · intro h
    have h1 := parse_text x hx
    rw [h, parse_text y hy] at h1
    exact (Option.some.inj h1).symm
  · intro h; rw [h]
end Go.Pv
namespace Go.Pv
/-! ### The order of values: the plain law -/
theorem equal_sym (s : Int) (a b : By) : equalM s b a = equalM s a b := by
  unfold equalM
  rcases holdM s a with _ | x <;> rcases holdM s b with _ | y <;> simp [eq_comm]
theorem orderK_anti (s : Int) (x y : By) : orderK s y x = (-(orderK s x y).1, (orderK s x y).2) := by
  unfold orderK pordM
  split
  · rw [wcmp_anti (sizedM x) (sizedM y)]
  · split
    · rfl
    · split
      · rw [orderF_anti]
      · split
        · rfl
        · rw [cmpL_anti]
theorem orderK_bound (s : Int) (x y : By) : -1 ≤ (orderK s x y).1 ∧ (orderK s x y).1 ≤ 1 := by
  unfold orderK pordM
  split
  · exact wcmp_bound _ _
  · split
    · decide
    · split
      · exact orderF_bound _ _
      · split
        · decide
        · exact cmpL_bound _ _
theorem hold_three {l k : By} (h : holdM 3 l = some k) : ∃ x, sizedM l = some x ∧ k = plainM l ∧ sizedM k = some x := by
  obtain ⟨_, _, h1, h2⟩ := holdM_some h
  have h3 : (sizedM l).isSome = true := h1
  obtain ⟨x, hx⟩ := Option.isSome_iff_exists.1 h3
  have h4 : plainM l = k := h2
  exact ⟨x, hx, h4.symm, by rw [← h4]; exact sized_plain hx⟩
theorem hold_eight {l k : By} (h : holdM 8 l = some k) : ∃ u, canonF u ∧ k = textF u ∧ parseM k = some u := by
  obtain ⟨_, _, h1, h2⟩ := holdM_some h
  have h3 : (parseM l).isSome = true := h1
  obtain ⟨x, hx⟩ := Option.isSome_iff_exists.1 h3
  have h4 : textF (plainF ((parseM l).getD 0)) = k := h2
  rw [hx] at h4
  have hc := plainF_canon (parse_lt hx)
  exact ⟨plainF x, hc, h4.symm, by rw [← h4]; exact parse_text _ hc.1⟩
theorem order_eq {s : Int} {a b x y : By} (ha : holdM s a = some x) (hb : holdM s b = some y) (ho : (orderK s x y).2 = true) : (orderK s x y).1 = 0 ↔ x = y := by
  by_cases h3 : s = 3
  · subst h3
    obtain ⟨p, p1, p2, p3⟩ := hold_three ha
    obtain ⟨q, q1, q2, q3⟩ := hold_three hb
    show wcmp (sizedM x) (sizedM y) = 0 ↔ _
    rw [p3, q3, wcmp_eq, p2, q2, plain_eq p1 q1]
  · by_cases h8 : s = 8
    · subst h8
      obtain ⟨u, u1, u2, u3⟩ := hold_eight ha
      obtain ⟨v, v1, v2, v3⟩ := hold_eight hb
      show orderF ((parseM x).getD 0) ((parseM y).getD 0) = 0 ↔ _
      rw [u3, v3, u2, v2, text_inj u1.1 v1.1]
      exact orderF_eq u1 v1
    · unfold orderK at ho ⊢
      rw [if_neg h3, if_neg h8] at *
      by_cases h4 : s = 4
      · rw [if_pos h4] at ho; cases ho
      · rw [if_neg h4] at *
        by_cases h9 : s = 9
        · rw [if_pos h9] at ho; cases ho
        · rw [if_neg h9]
          exact cmpL_eq x y
theorem order_tr {s : Int} {a b c x y z : By} (ha : holdM s a = some x) (hb : holdM s b = some y) (hc : holdM s c = some z) (h1 : (orderK s x y).1 ≤ 0) (h2 : (orderK s y z).1 ≤ 0) (ho : (orderK s x y).2 = true) : (orderK s x z).1 ≤ 0 := by
  by_cases h3 : s = 3
  · subst h3
    obtain ⟨p, p1, p2, p3⟩ := hold_three ha
    obtain ⟨q, q1, q2, q3⟩ := hold_three hb
    obtain ⟨r, r1, r2, r3⟩ := hold_three hc
    have k1 : wcmp (sizedM x) (sizedM y) ≤ 0 := h1
    have k2 : wcmp (sizedM y) (sizedM z) ≤ 0 := h2
    show wcmp (sizedM x) (sizedM z) ≤ 0
    rw [p3, q3] at k1
    rw [q3, r3] at k2
    rw [p3, r3]
    exact wcmp_tr p q r k1 k2
  · by_cases h8 : s = 8
    · subst h8
      exact orderF_tr _ _ _ h1 h2
    · unfold orderK at *
      rw [if_neg h3, if_neg h8] at *
      by_cases h4 : s = 4
      · rw [if_pos h4] at ho; cases ho
      · rw [if_neg h4] at *
        by_cases h9 : s = 9
        · rw [if_pos h9] at ho; cases ho
        · rw [if_neg h9] at *
          exact cmpL_tr _ _ _ h1 h2
theorem order_ok (s : Int) (x y z w : By) : (orderK s x y).2 = (orderK s z w).2 := by
  unfold orderK
  split
  · rfl
  · split
    · rfl
    · split
      · rfl
      · split <;> rfl
structure OrdFacts (s : Int) (a b c : By) : Prop where
  anti : orderM s b a = (-(orderM s a b).1, (orderM s a b).2)
  eq : (orderM s a b).2 = true → equalM s a b = decide ((orderM s a b).1 = 0)
  sym : equalM s b a = equalM s a b
  tr : (orderM s a b).2 = true → (orderM s b c).2 = true → (orderM s a c).2 = true ∧ ((orderM s a b).1 ≤ 0 → (orderM s b c).1 ≤ 0 → (orderM s a c).1 ≤ 0)
  lo : -1 ≤ (orderM s a b).1
  hi : (orderM s a b).1 ≤ 1
theorem ordFacts (s : Int) (a b c : By) : OrdFacts s a b c := by
  have hsym := equal_sym s a b
  have key : orderM s b a = (-(orderM s a b).1, (orderM s a b).2) ∧ ((orderM s a b).2 = true → equalM s a b = decide ((orderM s a b).1 = 0)) ∧
      ((orderM s a b).2 = true → (orderM s b c).2 = true → (orderM s a c).2 = true ∧ ((orderM s a b).1 ≤ 0 → (orderM s b c).1 ≤ 0 → (orderM s a c).1 ≤ 0)) ∧ -1 ≤ (orderM s a b).1 ∧ (orderM s a b).1 ≤ 1 := by
    unfold orderM
    cases ha : holdM s a with
    | none =>
      refine ⟨?_, fun h => (by cases h), fun h => (by cases h), (show (-1 : Int) ≤ 0 by decide), (show (0 : Int) ≤ 1 by decide)⟩
      cases holdM s b <;> rfl
    | some x =>
      cases hb : holdM s b with
      | none => exact ⟨rfl, fun h => (by cases h), fun h => (by cases h), (show (-1 : Int) ≤ 0 by decide), (show (0 : Int) ≤ 1 by decide)⟩
      | some y =>
        refine ⟨orderK_anti s x y, fun h => ?_, fun h1 h2 => ?_, (orderK_bound s x y).1, (orderK_bound s x y).2⟩
        · unfold equalM
          rw [ha, hb]
          simp only [Option.isSome_some, Bool.true_and, Option.some.injEq]
          exact decide_eq_decide.2 (order_eq ha hb h).symm
        · cases hc : holdM s c with
          | none => rw [hc] at h2; cases h2
          | some z => exact ⟨(order_ok s x z x y).trans h1, fun k1 k2 => order_tr ha hb hc k1 k2 h1⟩
  exact ⟨key.1, key.2.1, hsym, key.2.2.1, key.2.2.2.1, key.2.2.2.2⟩
theorem odd_bytes (s : Int) : equalM s [255] [254] = false := by
  by_cases h1 : s = 1
  · subst h1; decide +kernel
  by_cases h2 : s = 2
  · subst h2; decide +kernel
  by_cases h3 : s = 3
  · subst h3; decide +kernel
  by_cases h4 : s = 4
  · subst h4; decide +kernel
  by_cases h5 : s = 5
  · subst h5; decide +kernel
  by_cases h7 : s = 7
  · subst h7; decide +kernel
  by_cases h8 : s = 8
  · subst h8; decide +kernel
  by_cases h9 : s = 9
  · subst h9; decide +kernel
  have : isRule s = false := by simp [isRule, h1, h2, h3, h4, h5, h7, h8, h9]
  unfold equalM holdM
  rw [this]; rfl
theorem ten_nine : orderM 3 [49, 48] [57] = (1, true) := by decide +kernel
end Go.Pv
