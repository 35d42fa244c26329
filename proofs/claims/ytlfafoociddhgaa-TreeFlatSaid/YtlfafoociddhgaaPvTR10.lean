/- A part of the proof: functions of the program, walked, or what operations come to. -/
import Derived.Test.YtlfafoociddhgaaPvTR9
namespace Go.Pv
open Go.Proofs
/-! ### The balanced tree: plain laws -/
def AA : T → Prop
  | .nil => True
  | .node _ _ lv sz l r => AA l ∧ AA r ∧ l.lv + 1 = lv ∧ (r.lv + 1 = lv ∨ (r.lv = lv ∧ r.right.lv ≠ lv)) ∧ sz = l.sz + 1 + r.sz
def Bal (n : Nat) (t : T) : Prop := AA t ∧ t.sz ≤ n
@[simp] theorem right_node (p k : ByteArray) (lv sz : Int) (l r : T) : (T.node p k lv sz l r).right = r := rfl
@[simp] theorem right_nil : T.nil.right = .nil := rfl
theorem made_node (p k : ByteArray) (lv0 sz0 : Int) (l0 r0 : T) (lv : Int) (l r : T) : made (.node p k lv0 sz0 l0 r0) lv l r = .node p k lv (IntKind.i64.wrap (IntKind.i64.wrap (l.sz + 1) + r.sz)) l r := rfl
theorem wrap_small {x : Int} (h1 : 0 ≤ x) (h2 : x ≤ 1000000000) : IntKind.i64.wrap x = x := by
  simp [IntKind.wrap, IntKind.bits, IntKind.signed]; omega
theorem made_small (p k : ByteArray) (lv0 sz0 : Int) (l0 r0 : T) (lv : Int) (l r : T) (h1 : 0 ≤ l.sz) (h2 : l.sz ≤ 100000) (h3 : 0 ≤ r.sz) (h4 : r.sz ≤ 100000) :
    made (.node p k lv0 sz0 l0 r0) lv l r = .node p k lv (l.sz + 1 + r.sz) l r := by
  rw [made_node, wrap_small (x := l.sz + 1) (by omega) (by omega), wrap_small (by omega) (by omega)]
theorem AA_nums : ∀ {t : T}, AA t → 0 ≤ t.lv ∧ t.lv ≤ t.sz
  | .nil, _ => ⟨Int.le_refl _, Int.le_refl _⟩
  | .node p k lv sz l r, h => by
    have a := AA_nums h.1
    have b := AA_nums h.2.1
    have c := h.2.2
    simp
    omega
theorem AA_pow : ∀ {t : T}, AA t → ∀ k : Nat, (k : Int) ≤ t.lv → (2 : Int) ^ k ≤ t.sz + 1
  | .nil, _, k, hk => by
    have : k = 0 := by simp at hk; omega
    subst this
    decide
  | .node p q lv sz l r, h, k, hk => by
    have a := AA_nums h.1
    have b := AA_nums h.2.1
    have c := h.2.2
    simp at hk
    cases k with
    | zero => simp; omega
    | succ j =>
      have h1 := AA_pow h.1 j (by omega)
      have h2 := AA_pow h.2.1 j (by omega)
      simp only [T.sz_node, Int.pow_succ]
      omega
theorem AA_height : ∀ {t : T}, AA t → t.sz ≤ 100000 → 0 ≤ heightT t ∧ heightT t ≤ 2 * t.lv ∧ (t.right.lv ≠ t.lv → heightT t ≤ 2 * t.lv - 1)
  | .nil, _, _ => ⟨Int.le_refl _, Int.le_refl _, fun h => absurd rfl h⟩
  | .node p k lv sz l r, h, hs => by
    have a := AA_nums h.1
    have b := AA_nums h.2.1
    have c := h.2.2
    simp only [T.sz_node] at hs
    have h1 := AA_height h.1 (by omega)
    have h2 := AA_height h.2.1 (by omega)
    simp only [heightT, T.lv_node, right_node]
    rw [wrap_small (by split <;> omega) (by split <;> omega)]
    rcases c with ⟨c1, c2 | ⟨c2, c3⟩, c4⟩
    · refine ⟨by split <;> omega, by split <;> omega, fun _ => by split <;> omega⟩
    · have h3 := h2.2.2 (by rw [c2]; exact c3)
      refine ⟨by split <;> omega, by split <;> omega, fun q => absurd c2 q⟩
theorem bal_nil : Bal 0 .nil := ⟨trivial, Int.le_refl _⟩
theorem AA_nz : ∀ {t : T}, AA t → nz t
  | .nil, _ => trivial
  | .node p k lv sz l r, h => by
    have a := AA_nums h.1
    have c := h.2.2
    exact ⟨by omega, AA_nz h.1, AA_nz h.2.1⟩
theorem bal_nz {n : Nat} {t : T} (h : Bal n t) : nz t := AA_nz h.1
theorem bal_sz {n : Nat} {t : T} (h : Bal n t) : 0 ≤ t.sz := by have := AA_nums h.1; omega
theorem bal_h {n : Nat} {t : T} (h : Bal n t) (hn : n ≤ 2000) (k : Nat) (hk : t.sz < (2 : Int) ^ (k + 1)) : heightT t ≤ 2 * ((k : Int) + 1) := by
  have a := AA_height h.1 (by have := h.2; omega)
  have b : t.lv ≤ (k : Int) + 1 := by
    apply Int.le_of_lt_add_one
    apply Int.lt_of_not_ge
    intro hge
    have := AA_pow h.1 (k + 2) (by omega)
    rw [Int.pow_succ] at this
    have hp : (0 : Int) < 2 ^ (k + 1) := Int.pow_pos (by decide)
    omega
  omega
theorem bal_0 {n : Nat} {t : T} (h : Bal n t) : t.sz = 0 → heightT t = 0 := by
  intro h0
  cases t with
  | nil => rfl
  | node p k lv sz l r =>
    have a := AA_nums h.1.1
    have b := AA_nums h.1.2.1
    have c := h.1.2.2
    simp at h0
    omega
/-- The step behind an insertion. -/
def Step (t u : T) : Prop := AA u ∧ 1 ≤ u.lv ∧ (u.lv = t.lv ∨ (u.lv = t.lv + 1 ∧ t.right.lv = t.lv ∧ u.right.lv = t.lv)) ∧ (u.sz = t.sz ∨ u.sz = t.sz + 1)
theorem step_left (p k : ByteArray) {lv sz : Int} {l r u : T} (h : AA (.node p k lv sz l r)) (hs : sz ≤ 10000) (hu : Step l u) : Step (.node p k lv sz l r) (splitT (skewT (made (.node p k lv sz l r) lv u r))) := by
  have a := AA_nums h.1
  have b := AA_nums h.2.1
  have c := h.2.2
  rcases u with _ | ⟨p2, k2, lv2, sz2, l2, r2⟩
  · have := hu.2.1; simp at this
  have d1 := AA_nums hu.1.1
  have d2 := AA_nums hu.1.2.1
  have d3 := hu.1.2.2
  have d4 := hu.2.2
  simp only [T.lv_node, T.sz_node, right_node] at d4
  rw [made_small _ _ _ _ _ _ _ _ _ (by simp; omega) (by simp; omega) (by omega) (by omega), skewT]
  by_cases e : lv2 = lv
  · rw [if_pos e, made_small _ _ _ _ _ _ _ r2 r (by omega) (by omega) (by omega) (by omega), made_small _ _ _ _ _ _ _ _ _ (by omega) (by omega) (by simp; omega) (by simp; omega), splitT]
    by_cases f : r.lv = lv2
    · rw [if_pos f, made_small _ _ _ _ _ _ _ l2 r2 (by omega) (by omega) (by omega) (by omega), made_small _ _ _ _ _ _ _ _ _ (by simp; omega) (by simp; omega) (by omega) (by omega), wrap_small (by omega) (by omega)]
      refine ⟨⟨⟨hu.1.1, hu.1.2.1, ?_, ?_, ?_⟩, h.2.1, ?_, ?_, ?_⟩, ?_, ?_, ?_⟩ <;> (try simp) <;> omega
    · rw [if_neg f]
      refine ⟨⟨hu.1.1, ⟨hu.1.2.1, h.2.1, ?_, ?_, ?_⟩, ?_, ?_, ?_⟩, ?_, ?_, ?_⟩ <;> (try simp) <;> omega
  · rw [if_neg e]
    have g : splitT (.node p k lv (((T.node p2 k2 lv2 sz2 l2 r2).sz + 1) + r.sz) (.node p2 k2 lv2 sz2 l2 r2) r) = .node p k lv (((T.node p2 k2 lv2 sz2 l2 r2).sz + 1) + r.sz) (.node p2 k2 lv2 sz2 l2 r2) r := by
      rcases r with _ | ⟨p3, k3, lv3, sz3, l3, r3⟩
      · rfl
      · rw [splitT, if_neg]
        have c' := h.2.1.2.2
        simp at c
        omega
    rw [g]
    refine ⟨⟨hu.1, h.2.1, ?_, ?_, ?_⟩, ?_, ?_, ?_⟩ <;> (try simp) <;> omega
theorem step_right (p k : ByteArray) {lv sz : Int} {l r u : T} (h : AA (.node p k lv sz l r)) (hs : sz ≤ 10000) (hu : Step r u) : Step (.node p k lv sz l r) (splitT (skewT (made (.node p k lv sz l r) lv l u))) := by
  have a := AA_nums h.1
  have b := AA_nums h.2.1
  have c := h.2.2
  rcases u with _ | ⟨p2, k2, lv2, sz2, l2, r2⟩
  · have := hu.2.1; simp at this
  have d1 := AA_nums hu.1.1
  have d2 := AA_nums hu.1.2.1
  have d3 := hu.1.2.2
  have d4 := hu.2.2
  simp only [T.lv_node, T.sz_node, right_node] at d4
  rw [made_small _ _ _ _ _ _ _ _ _ (by omega) (by omega) (by simp; omega) (by simp; omega)]
  have g : skewT (.node p k lv (l.sz + 1 + (T.node p2 k2 lv2 sz2 l2 r2).sz) l (.node p2 k2 lv2 sz2 l2 r2)) = .node p k lv (l.sz + 1 + (T.node p2 k2 lv2 sz2 l2 r2).sz) l (.node p2 k2 lv2 sz2 l2 r2) := by
    rcases l with _ | ⟨p3, k3, lv3, sz3, l3, r3⟩
    · rfl
    · rw [skewT, if_neg]
      simp at c
      omega
  rw [g, splitT]
  by_cases f : r2.lv = lv
  · rw [if_pos f, made_small _ _ _ _ _ _ _ l l2 (by omega) (by omega) (by omega) (by omega), made_small _ _ _ _ _ _ _ _ _ (by simp; omega) (by simp; omega) (by omega) (by omega), wrap_small (by omega) (by omega)]
    refine ⟨⟨⟨h.1, hu.1.1, ?_, ?_, ?_⟩, hu.1.2.1, ?_, ?_, ?_⟩, ?_, ?_, ?_⟩ <;> (try simp) <;> omega
  · rw [if_neg f]
    refine ⟨⟨h.1, hu.1, ?_, ?_, ?_⟩, ?_, ?_, ?_⟩ <;> (try simp) <;> omega
theorem step_with (p k : ByteArray) : ∀ {t : T}, AA t → t.sz ≤ 10000 → Step t (withT p k t)
  | .nil, _, _ => ⟨⟨trivial, trivial, rfl, .inl rfl, rfl⟩, Int.le_refl _, .inr ⟨rfl, rfl, rfl⟩, .inr rfl⟩
  | .node q j lv sz l r, h, hs => by
    have a := AA_nums h.1
    have b := AA_nums h.2.1
    have c := h.2.2
    simp only [T.sz_node] at hs
    have h1 := step_with p k h.1 (by omega)
    have h2 := step_with p k h.2.1 (by omega)
    rw [withT]
    split
    · exact step_left q j h hs h1
    · split
      · exact step_right q j h hs h2
      · rw [wrap_small (x := l.sz + 1) (by omega) (by omega), wrap_small (by omega) (by omega)]
        exact ⟨⟨h.1, h.2.1, c.1, c.2.1, rfl⟩, by simp; omega, .inl rfl, .inl (by simp; omega)⟩
theorem bal_with {n : Nat} {t : T} (h : Bal n t) (hn : n ≤ 2000) (p k : ByteArray) : Bal (n + 1) (withT p k t) := by
  have := step_with p k h.1 (by have := h.2; omega)
  exact ⟨this.1, by have h2 := h.2; have h3 := this.2.2.2; omega⟩
/-! ### Removal -/
theorem skew_id {p k : ByteArray} {lv sz : Int} {l r : T} (h : l.lv ≠ lv) : skewT (.node p k lv sz l r) = .node p k lv sz l r := by
  rcases l with _ | ⟨p2, k2, lv2, sz2, l2, r2⟩
  · rfl
  · rw [skewT, if_neg]; simpa using h
theorem skew_yes {p k : ByteArray} {lv sz : Int} {p2 k2 : ByteArray} {sz2 : Int} {l2 r2 r : T} : skewT (.node p k lv sz (.node p2 k2 lv sz2 l2 r2) r) = made (.node p2 k2 lv sz2 l2 r2) lv l2 (made (.node p k lv sz (.node p2 k2 lv sz2 l2 r2) r) lv r2 r) := by
  rw [skewT, if_pos rfl]
theorem split_id {p k : ByteArray} {lv sz : Int} {l r : T} (h : r = .nil ∨ r.right.lv ≠ lv) : splitT (.node p k lv sz l r) = .node p k lv sz l r := by
  rcases r with _ | ⟨p2, k2, lv2, sz2, l2, r2⟩
  · rfl
  · rcases h with h | h
    · cases h
    · rw [splitT, if_neg]; simpa using h
theorem split_yes {p k : ByteArray} {lv sz : Int} {p2 k2 : ByteArray} {lv2 sz2 : Int} {l l2 r2 : T} (h : r2.lv = lv) : splitT (.node p k lv sz l (.node p2 k2 lv2 sz2 l2 r2)) = made (.node p2 k2 lv2 sz2 l2 r2) (IntKind.i64.wrap (lv2 + 1)) (made (.node p k lv sz l (.node p2 k2 lv2 sz2 l2 r2)) lv l l2) r2 := by
  rw [splitT, if_pos h]
theorem AA_skew {t : T} (h : AA t) : skewT t = t := by
  cases t with
  | nil => rfl
  | node p k lv sz l r => exact skew_id (by have := h.2.2.1; omega)
theorem AA_split {t : T} (h : AA t) : splitT t = t := by
  cases t with
  | nil => rfl
  | node p k lv sz l r =>
    refine split_id ?_
    rcases r with _ | ⟨p2, k2, lv2, sz2, l2, r2⟩
    · exact .inl rfl
    · have a := h.2.2
      have b := h.2.1.2.2
      refine .inr ?_
      simp at a ⊢
      omega
theorem AA_low2b {t : T} (h : AA t) (hs : t.sz ≤ 50000) : low2b t = t := by
  rcases t with _ | ⟨p, k, lv, sz, l, r⟩
  · rfl
  · rcases r with _ | ⟨p2, k2, lv2, sz2, l2, r2⟩
    · rfl
    · have a := AA_nums h.1
      have b := AA_nums h.2.1
      have c := h.2.2
      simp only [T.sz_node] at hs b c
      rw [low2b, AA_skew h.2.1, made_small _ _ _ _ _ _ _ _ _ (by omega) (by omega) (by simp; omega) (by simp; omega)]
      simp only [T.sz_node]
      rw [← c.2.2]
/-- low2 of a node whose right part is balanced. -/
theorem low2_right {p k : ByteArray} {lv sz : Int} {l r : T} (hl : 0 ≤ l.sz ∧ l.sz ≤ 50000) (h : AA r) (hr : r.sz ≤ 50000) (hz : sz = l.sz + 1 + r.sz) : low2 (.node p k lv sz l r) = .node p k lv sz l r := by
  rcases r with _ | ⟨p2, k2, lv2, sz2, l2, r2⟩
  · rfl
  · have b := AA_nums h
    rw [low2, AA_skew h, AA_low2b h hr, made_small _ _ _ _ _ _ _ _ _ hl.1 (by omega) (by omega) (by omega), ← hz]
theorem low3_right {p k : ByteArray} {lv sz : Int} {l r : T} (hl : 0 ≤ l.sz ∧ l.sz ≤ 50000) (h : splitT r = r) (hr : 0 ≤ r.sz ∧ r.sz ≤ 50000) (hz : sz = l.sz + 1 + r.sz) : low3 (.node p k lv sz l r) = .node p k lv sz l r := by
  rcases r with _ | ⟨p2, k2, lv2, sz2, l2, r2⟩
  · rfl
  · rw [low3, h, made_small _ _ _ _ _ _ _ _ _ hl.1 (by omega) (by omega) (by omega), ← hz]
theorem most_small {l r : T} (hl : 0 ≤ l.lv ∧ l.lv ≤ 50000) (hr : 0 ≤ r.lv ∧ r.lv ≤ 50000) : mostT l r = (if r.lv < l.lv then r.lv else l.lv) + 1 := by
  rw [mostT, wrap_small (by split <;> omega) (by split <;> omega)]
/-- A balanced node stays as it is. -/
theorem AA_low {t : T} (h : AA t) (hs : t.sz ≤ 50000) : lowT t = t := by
  rcases t with _ | ⟨p, k, lv, sz, l, r⟩
  · rfl
  · have a := AA_nums h.1
    have b := AA_nums h.2.1
    have c := h.2.2
    simp only [T.sz_node] at hs
    have e1 : low1 (.node p k lv sz l r) = .node p k lv sz l r := by
      rw [low1, if_neg]
      rw [most_small (by omega) (by omega)]
      split <;> omega
    rw [lowT, e1, AA_skew h, low2_right (by omega) h.2.1 (by omega) c.2.2, AA_split h, low3_right (by omega) (AA_split h.2.1) (by omega) c.2.2]
/-- What a removal may do. -/
def Shr (t u : T) : Prop := AA u ∧ (u.lv = t.lv ∨ u.lv + 1 = t.lv) ∧ (u.lv = t.lv → u.right.lv = t.lv → t.right.lv = t.lv) ∧ u.sz ≤ t.sz
/-- The right part has dropped by one below a single node. -/
theorem low_right1 (p k : ByteArray) {lv sz : Int} {l r : T} (hl : AA l) (hr : AA r) (h1 : l.lv + 1 = lv) (h2 : r.lv + 2 = lv) (hs : l.sz + r.sz ≤ 40000) :
    AA (lowT (.node p k lv sz l r)) ∧ ((lowT (.node p k lv sz l r)).lv = lv ∨ (lowT (.node p k lv sz l r)).lv + 1 = lv) ∧ ((lowT (.node p k lv sz l r)).lv = lv → (lowT (.node p k lv sz l r)).right.lv ≠ lv) ∧ (lowT (.node p k lv sz l r)).sz = l.sz + 1 + r.sz := by
  have b := AA_nums hr
  rcases l with _ | ⟨lp, lk, llv, lsz, ll, lr⟩
  · simp at h1; omega
  have a1 := AA_nums hl.1
  have a2 := AA_nums hl.2.1
  have a3 := hl.2.2
  simp only [T.lv_node, T.sz_node] at h1 hs
  obtain rfl : llv = lv - 1 := by omega
  have e1 : low1 (.node p k lv sz (.node lp lk (lv - 1) lsz ll lr) r) = .node p k (lv - 1) (lsz + 1 + r.sz) (.node lp lk (lv - 1) lsz ll lr) r := by
    have m : mostT (.node lp lk (lv - 1) lsz ll lr) r = lv - 1 := by
      rw [most_small (by simp; omega) (by omega)]
      rw [if_pos (by simp; omega)]; omega
    rw [low1, m, if_pos (by omega), if_neg (by omega), made_small _ _ _ _ _ _ _ _ _ (by simp; omega) (by simp; omega) (by omega) (by omega)]
    rfl
  rw [lowT, e1, skew_yes, made_small _ _ _ _ _ _ _ lr r (by omega) (by omega) (by omega) (by omega), made_small _ _ _ _ _ _ _ ll _ (by omega) (by omega) (by simp; omega) (by simp; omega)]
  simp only [T.sz_node]
  by_cases d : lr.lv = lv - 1
  · rcases lr with _ | ⟨q, qk, qlv, qsz, ql, qr⟩
    · simp at d; omega
    have q1 := AA_nums hl.2.1.1
    have q2 := AA_nums hl.2.1.2.1
    have q3 := hl.2.1.2.2
    simp only [T.lv_node] at d
    subst d
    simp only [T.lv_node, T.sz_node, right_node] at a3 a2
    have hR : AA (.node p k (lv - 1) (qr.sz + 1 + r.sz) qr r) := ⟨hl.2.1.2.1, hr, by omega, .inl (by omega), rfl⟩
    rw [low2, skew_yes, made_small _ _ _ _ _ _ _ qr r (by omega) (by omega) (by omega) (by omega), made_small _ _ _ _ _ _ _ ql _ (by omega) (by omega) (by simp; omega) (by simp; omega)]
    rw [low2b, AA_skew hR, made_small _ _ _ _ _ _ _ ql _ (by omega) (by omega) (by simp; omega) (by simp; omega), made_small _ _ _ _ _ _ _ ll _ (by omega) (by omega) (by simp; omega) (by simp; omega),
      split_yes (by simp), wrap_small (x := lv - 1 + 1) (by omega) (by omega), made_small _ _ _ _ _ _ _ ll ql (by omega) (by omega) (by omega) (by omega), made_small _ _ _ _ _ _ _ _ _ (by simp; omega) (by simp; omega) (by simp; omega) (by simp; omega),
      low3_right (by simp; omega) (AA_split hR) (by simp; omega) (by simp)]
    refine ⟨⟨⟨hl.1, hl.2.1.1, ?_, ?_, ?_⟩, hR, ?_, ?_, ?_⟩, ?_, ?_, ?_⟩ <;> (try simp) <;> omega
  · have hR : AA (.node p k (lv - 1) (lr.sz + 1 + r.sz) lr r) := ⟨hl.2.1, hr, by omega, .inl (by omega), rfl⟩
    rw [low2_right (by omega) hR (by simp; omega) (by simp), split_id (.inr (by simp; omega)), low3_right (by omega) (AA_split hR) (by simp; omega) (by simp)]
    refine ⟨⟨hl.1, hR, ?_, ?_, ?_⟩, ?_, ?_, ?_⟩ <;> (try simp) <;> omega
/-- The left part has dropped by one, the right one is one below. -/
theorem low_left1 (p k : ByteArray) {lv sz : Int} {l r : T} (hl : AA l) (hr : AA r) (h1 : l.lv + 2 = lv) (h2 : r.lv + 1 = lv) (hs : l.sz + r.sz ≤ 40000) :
    AA (lowT (.node p k lv sz l r)) ∧ ((lowT (.node p k lv sz l r)).lv = lv ∨ (lowT (.node p k lv sz l r)).lv + 1 = lv) ∧ ((lowT (.node p k lv sz l r)).lv = lv → (lowT (.node p k lv sz l r)).right.lv ≠ lv) ∧ (lowT (.node p k lv sz l r)).sz = l.sz + 1 + r.sz := by
  have a := AA_nums hl
  have b := AA_nums hr
  have e1 : low1 (.node p k lv sz l r) = .node p k (lv - 1) (l.sz + 1 + r.sz) l r := by
    have m : mostT l r = lv - 1 := by
      rw [most_small (by omega) (by omega), if_neg (by omega)]; omega
    rw [low1, m, if_pos (by omega), if_neg (by omega), made_small _ _ _ _ _ _ _ _ _ (by omega) (by omega) (by omega) (by omega)]
  rw [lowT, e1, skew_id (by omega), low2_right (by omega) hr (by omega) rfl]
  rcases r with _ | ⟨rp, rk, rlv, rsz, rl, rr⟩
  · simp at h2; omega
  have b1 := AA_nums hr.1
  have b2 := AA_nums hr.2.1
  have b3 := hr.2.2
  simp only [T.lv_node, T.sz_node] at h2 hs b
  by_cases d : rr.lv = lv - 1
  · rw [split_yes d, wrap_small (x := rlv + 1) (by omega) (by omega), made_small _ _ _ _ _ _ _ l rl (by omega) (by omega) (by omega) (by omega), made_small _ _ _ _ _ _ _ _ _ (by simp; omega) (by simp; omega) (by omega) (by omega),
      low3_right (by simp; omega) (AA_split hr.2.1) (by omega) rfl]
    refine ⟨⟨⟨hl, hr.1, ?_, ?_, ?_⟩, hr.2.1, ?_, ?_, ?_⟩, ?_, ?_, ?_⟩ <;> (try simp) <;> omega
  · rw [split_id (.inr (by simpa using d)), low3_right (by omega) (AA_split hr) (by simp; omega) rfl]
    refine ⟨⟨hl, hr, ?_, ?_, ?_⟩, ?_, ?_, ?_⟩ <;> (try simp) <;> omega
/-- The left part has dropped by one, the right one is of the node's level. -/
theorem low_left2 (p k : ByteArray) {lv sz : Int} {l r : T} (hl : AA l) (hr : AA r) (h1 : l.lv + 2 = lv) (h2 : r.lv = lv) (h3 : r.right.lv ≠ lv) (hs : l.sz + r.sz ≤ 40000) :
    AA (lowT (.node p k lv sz l r)) ∧ (lowT (.node p k lv sz l r)).lv = lv ∧ (lowT (.node p k lv sz l r)).sz = l.sz + 1 + r.sz := by
  have a := AA_nums hl
  rcases r with _ | ⟨rp, rk, rlv, rsz, rl, rr⟩
  · simp at h2; omega
  have b1 := AA_nums hr.1
  have b2 := AA_nums hr.2.1
  have b3 := hr.2.2
  simp only [T.lv_node, T.sz_node, right_node] at h2 h3 hs
  subst h2
  have e1 : low1 (.node p k rlv sz l (.node rp rk rlv rsz rl rr)) = .node p k (rlv - 1) (l.sz + 1 + (rl.sz + 1 + rr.sz)) l (.node rp rk (rlv - 1) (rl.sz + 1 + rr.sz) rl rr) := by
    have m : mostT l (.node rp rk rlv rsz rl rr) = rlv - 1 := by
      rw [most_small (by omega) (by simp; omega), if_neg (by simp; omega)]; omega
    rw [low1, m, if_pos (by omega), if_pos (by simp; omega), T.left, T.right, made_small _ _ _ _ _ _ _ rl rr (by omega) (by omega) (by omega) (by omega), made_small _ _ _ _ _ _ _ _ _ (by omega) (by omega) (by simp; omega) (by simp; omega)]
    rfl
  rw [lowT, e1, skew_id (by omega), low2]
  rcases rl with _ | ⟨q, qk, qlv, qsz, ql, qr⟩
  · simp at b3; omega
  have q1 := AA_nums hr.1.1
  have q2 := AA_nums hr.1.2.1
  have q3 := hr.1.2.2
  simp only [T.lv_node, T.sz_node] at b1 b3 ⊢
  obtain rfl : qlv = rlv - 1 := by omega
  rw [skew_yes, made_small _ _ _ _ _ _ _ qr rr (by omega) (by omega) (by omega) (by omega), made_small _ _ _ _ _ _ _ ql _ (by omega) (by omega) (by simp; omega) (by simp; omega), low2b]
  rcases rr with _ | ⟨s, sk, slv, ssz, sl, sr⟩
  · simp at b3; omega
  have s1 := AA_nums hr.2.1.1
  have s2 := AA_nums hr.2.1.2.1
  have s3 := hr.2.1.2.2
  simp only [T.lv_node, T.sz_node] at b2 b3 h3 ⊢
  obtain rfl : slv = rlv - 1 := by omega
  by_cases d : qr.lv = rlv - 1
  · rcases qr with _ | ⟨w, wk, wlv, wsz, wl, wr⟩
    · simp at d; omega
    have w1 := AA_nums hr.1.2.1.1
    have w2 := AA_nums hr.1.2.1.2.1
    have w3 := hr.1.2.1.2.2
    simp only [T.lv_node, T.sz_node, right_node] at d q2 q3 ⊢
    obtain rfl : wlv = rlv - 1 := d
    rw [skew_yes, made_small _ _ _ _ _ _ _ wr _ (by omega) (by omega) (by simp; omega) (by simp; omega), made_small _ _ _ _ _ _ _ wl _ (by omega) (by omega) (by simp; omega) (by simp; omega), made_small _ _ _ _ _ _ _ ql _ (by omega) (by omega) (by simp; omega) (by simp; omega), made_small _ _ _ _ _ _ _ l _ (by omega) (by omega) (by simp; omega) (by simp; omega),
      split_yes (by simp), wrap_small (x := rlv - 1 + 1) (by omega) (by omega), made_small _ _ _ _ _ _ _ l ql (by omega) (by omega) (by omega) (by omega), made_small _ _ _ _ _ _ _ _ _ (by simp; omega) (by simp; omega) (by simp; omega) (by simp; omega), low3,
      split_yes (by simp), wrap_small (x := rlv - 1 + 1) (by omega) (by omega), made_small _ _ _ _ _ _ _ wl wr (by omega) (by omega) (by omega) (by omega), made_small _ _ _ _ _ _ _ _ (.node s sk (rlv - 1) ssz sl sr) (by simp; omega) (by simp; omega) (by simp; omega) (by simp; omega), made_small _ _ _ _ _ _ _ _ _ (by simp; omega) (by simp; omega) (by simp; omega) (by simp; omega)]
    refine ⟨⟨⟨hl, hr.1.1, ?_, ?_, ?_⟩, ⟨⟨hr.1.2.1.1, hr.1.2.1.2.1, ?_, ?_, ?_⟩, hr.2.1, ?_, ?_, ?_⟩, ?_, ?_, ?_⟩, ?_, ?_⟩ <;> (try simp) <;> omega
  · rw [skew_id d, made_small _ _ _ _ _ _ _ ql _ (by omega) (by omega) (by simp; omega) (by simp; omega), made_small _ _ _ _ _ _ _ l _ (by omega) (by omega) (by simp; omega) (by simp; omega), split_yes (by simp), wrap_small (x := rlv - 1 + 1) (by omega) (by omega),
      made_small _ _ _ _ _ _ _ l ql (by omega) (by omega) (by omega) (by omega), made_small _ _ _ _ _ _ _ _ _ (by simp; omega) (by simp; omega) (by simp; omega) (by simp; omega), low3]
    by_cases f : sr.lv = rlv - 1
    · rw [split_yes f, wrap_small (x := rlv - 1 + 1) (by omega) (by omega), made_small _ _ _ _ _ _ _ qr sl (by omega) (by omega) (by omega) (by omega), made_small _ _ _ _ _ _ _ _ sr (by simp; omega) (by simp; omega) (by omega) (by omega), made_small _ _ _ _ _ _ _ _ _ (by simp; omega) (by simp; omega) (by simp; omega) (by simp; omega)]
      refine ⟨⟨⟨hl, hr.1.1, ?_, ?_, ?_⟩, ⟨⟨hr.1.2.1, hr.2.1.1, ?_, ?_, ?_⟩, hr.2.1.2.1, ?_, ?_, ?_⟩, ?_, ?_, ?_⟩, ?_, ?_⟩ <;> (try simp) <;> omega
    · rw [split_id (.inr (by simpa using f)), made_small _ _ _ _ _ _ _ _ _ (by simp; omega) (by simp; omega) (by simp; omega) (by simp; omega)]
      refine ⟨⟨⟨hl, hr.1.1, ?_, ?_, ?_⟩, ⟨hr.1.2.1, hr.2.1, ?_, ?_, ?_⟩, ?_, ?_, ?_⟩, ?_, ?_⟩ <;> (try simp) <;> omega
/-- A part of a balanced node has been made smaller. -/
theorem shr_left (p k : ByteArray) {q j : ByteArray} {lv sz : Int} {l r u : T} (h : AA (.node p k lv sz l r)) (hs : sz ≤ 10000) (hu : Shr l u) (z : Int) : Shr (.node p k lv sz l r) (lowT (.node q j lv (u.sz + 1 + r.sz) u r)) := by
  have a := AA_nums h.1
  have b := AA_nums h.2.1
  have c := h.2.2
  have d := AA_nums hu.1
  have e := hu.2
  rcases e.1 with e1 | e1
  · have hA : AA (.node q j lv (u.sz + 1 + r.sz) u r) := ⟨hu.1, h.2.1, by omega, c.2.1, rfl⟩
    rw [AA_low hA (by simp; omega)]
    exact ⟨hA, .inl rfl, fun _ g => g, by simp; omega⟩
  · rcases c.2.1 with c1 | c1
    · have g := low_left1 q j (lv := lv) (sz := u.sz + 1 + r.sz) hu.1 h.2.1 (by omega) c1 (by omega)
      exact ⟨g.1, g.2.1, fun g1 g2 => absurd g2 (g.2.2.1 g1), by rw [g.2.2.2]; simp; omega⟩
    · have g := low_left2 q j (lv := lv) (sz := u.sz + 1 + r.sz) hu.1 h.2.1 (by omega) c1.1 c1.2 (by omega)
      exact ⟨g.1, .inl g.2.1, fun _ _ => c1.1, by rw [g.2.2]; simp; omega⟩
theorem shr_right (p k : ByteArray) {q j : ByteArray} {lv sz : Int} {l r u : T} (h : AA (.node p k lv sz l r)) (hs : sz ≤ 10000) (hu : Shr r u) : Shr (.node p k lv sz l r) (lowT (.node q j lv (l.sz + 1 + u.sz) l u)) := by
  have a := AA_nums h.1
  have b := AA_nums h.2.1
  have c := h.2.2
  have d := AA_nums hu.1
  have e := hu.2
  by_cases hd : u.lv + 2 = lv
  · have g := low_right1 q j (lv := lv) (sz := l.sz + 1 + u.sz) h.1 hu.1 c.1 hd (by omega)
    exact ⟨g.1, g.2.1, fun g1 g2 => absurd g2 (g.2.2.1 g1), by rw [g.2.2.2]; simp; omega⟩
  · have hA : AA (.node q j lv (l.sz + 1 + u.sz) l u) := by
      refine ⟨h.1, hu.1, c.1, ?_, rfl⟩
      rcases e.1 with e1 | e1
      · rcases c.2.1 with c1 | c1
        · exact .inl (by omega)
        · refine .inr ⟨by omega, fun g => c1.2 ?_⟩
          have := e.2.1 e1 (by omega)
          omega
      · exact .inl (by omega)
    rw [AA_low hA (by simp; omega)]
    refine ⟨hA, .inl rfl, fun _ g => ?_, by simp; omega⟩
    simp at g ⊢
    omega
theorem AA_inLv {hi : Int} : ∀ {t : T}, AA t → t.lv ≤ hi → inLv 1 hi t
  | .nil, _, _ => trivial
  | .node p k lv sz l r, h, hh => by
    have a := AA_nums h.1
    have b := AA_nums h.2.1
    have c := h.2.2
    simp only [T.lv_node] at hh
    exact ⟨⟨by omega, hh⟩, AA_inLv h.1 (by omega), AA_inLv h.2.1 (by omega)⟩
theorem okL_made {m : T} (hm : m ≠ .nil) {lv : Int} {l r : T} (h1 : 1 ≤ lv) (h2 : lv ≤ 20000) (hl : AA l) (hr : AA r) (al : l.lv ≤ 20000) (ar : r.lv ≤ 20000) : okL (made m lv l r) := by
  refine ⟨?_, 20000, by decide, inLv_made hm ⟨h1, h2⟩ (AA_inLv hl al) (AA_inLv hr ar)⟩
  cases m with
  | nil => exact absurd rfl hm
  | node => simp [made]
theorem made_any {m : T} (hm : m ≠ .nil) {lv : Int} {l r : T} (h1 : 0 ≤ l.sz) (h2 : l.sz ≤ 100000) (h3 : 0 ≤ r.sz) (h4 : r.sz ≤ 100000) : ∃ q j, made m lv l r = .node q j lv (l.sz + 1 + r.sz) l r := by
  cases m with
  | nil => exact absurd rfl hm
  | node p k lv0 sz0 l0 r0 => exact ⟨p, k, made_small _ _ _ _ _ _ _ _ _ h1 h2 h3 h4⟩
theorem shr_without : ∀ {t : T} (q : ByteArray), AA t → t.sz ≤ 10000 → Shr t (withoutT q t) ∧ okW q t
  | .nil, q, _, _ => ⟨⟨trivial, .inl rfl, fun _ g => g, Int.le_refl _⟩, trivial⟩
  | .node p k lv sz l r, q, h, hs => by
    have a := AA_nums h.1
    have b := AA_nums h.2.1
    have c := h.2.2
    simp only [T.sz_node] at hs
    have hL := fun q => shr_without (t := l) q h.1 (by omega)
    have hR := fun q => shr_without (t := r) q h.2.1 (by omega)
    have nL := fun q => AA_nums (hL q).1.1
    have nR := fun q => AA_nums (hR q).1.1
    have sL := fun q => (hL q).1.2.2.2
    have sR := fun q => (hR q).1.2.2.2
    have kL : ∀ m q, m ≠ .nil → okL (made m lv (withoutT q l) r) := fun m q hm => okL_made hm (by omega) (by omega) (hL q).1.1 h.2.1 (by have := nL q; have := sL q; omega) (by omega)
    have kR : ∀ m q, m ≠ .nil → okL (made m lv l (withoutT q r)) := fun m q hm => okL_made hm (by omega) (by omega) h.1 (hR q).1.1 (by omega) (by have := nR q; have := sR q; omega)
    have eL : ∀ m q, m ≠ .nil → Shr (.node p k lv sz l r) (lowT (made m lv (withoutT q l) r)) := fun m q hm => by
      have n := nL q
      have s := sL q
      obtain ⟨x, y, e⟩ := made_any hm (lv := lv) (l := withoutT q l) (r := r) (by omega) (by omega) (by omega) (by omega)
      rw [e]
      exact shr_left p k h hs (hL q).1 0
    have eR : ∀ m q, m ≠ .nil → Shr (.node p k lv sz l r) (lowT (made m lv l (withoutT q r))) := fun m q hm => by
      have n := nR q
      have s := sR q
      obtain ⟨x, y, e⟩ := made_any hm (lv := lv) (l := l) (r := withoutT q r) (by omega) (by omega) (by omega) (by omega)
      rw [e]
      exact shr_right p k h hs (hR q).1
    refine ⟨?_, ?_⟩
    · rw [withoutT]
      split
      · exact eL _ q (by simp)
      · split
        · exact eR _ q (by simp)
        · split
          · rename_i hr
            exact eR _ _ (first_ne (by rintro rfl; cases hr))
          · split
            · rename_i hr hl
              have er : r = .nil := by
                cases r with
                | nil => rfl
                | node => exact absurd rfl hr
              have := eL (lastT l) (lastT l).path (last_ne (by rintro rfl; cases hl))
              rw [er] at this ⊢
              exact this
            · rename_i hr hl
              have er : r = .nil := by
                cases r with
                | nil => rfl
                | node => exact absurd rfl hr
              have el : l = .nil := by
                cases l with
                | nil => rfl
                | node => exact absurd rfl hl
              subst er; subst el
              simp at c
              refine ⟨trivial, .inr (by simp; omega), fun g => ?_, by simp; omega⟩
              simp at g
              omega
    · rw [okW]
      refine ⟨fun _ => ⟨(hL q).2, kL _ q (by simp)⟩, fun _ _ => ⟨(hR q).2, kR _ q (by simp)⟩, fun _ _ hr => ⟨(hR _).2, kR _ _ (first_ne hr)⟩, fun _ _ er hl => ⟨(hL _).2, ?_⟩⟩
      have := kL (lastT l) (lastT l).path (last_ne hl)
      rw [er] at this
      exact this
theorem bal_del {n : Nat} {t : T} (h : Bal n t) (hn : n ≤ 2000) (q : ByteArray) : Bal n (delT q t) := by
  rw [delT]
  split
  · have := (shr_without q h.1 (by have := h.2; omega)).1
    exact ⟨this.1, by have h2 := h.2; have h3 := this.2.2.2; omega⟩
  · exact h
theorem bal_ok {n : Nat} {t : T} (h : Bal n t) (hn : n ≤ 2000) (q : ByteArray) : okW q t := (shr_without q h.1 (by have := h.2; omega)).2
end Go.Pv
