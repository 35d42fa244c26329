/- A part of the proof: functions of the program, walked, or what operations come to. -/
import Derived.Test.YtnmpinbfddjhmaaPvGen
import Derived.Test.YtnmpinbfddjhmaaPvN1
namespace Go.Pv
/-! ### Characters of a text (UTF-8) -/
theorem wrapR (n : Int) (h : -2147483648 ≤ n) (h' : n ≤ 2147483647) : IntKind.i32.wrap n = n := by
  simp [IntKind.wrap, IntKind.bits, IntKind.signed]; omega
theorem rune_or (v : Nat) (x : UInt8) (hv : v < 33554432) : IntKind.i32.wrap ((((IntKind.i32.wrap ((v : Int) * 2 ^ min 6 IntKind.i32.bits) % 2 ^ IntKind.i32.bits).toNat ||| (IntKind.i32.wrap (IntKind.u8.wrap ((x.toNat % 2 ^ IntKind.u8.bits &&& 63 % 2 ^ IntKind.u8.bits : Nat) : Int)) % 2 ^ IntKind.i32.bits).toNat : Nat) : Int)) = ((v * 64 + x.toNat % 64 : Nat) : Int) := by
  have h2 : ∀ m : Nat, m < 256 → m &&& 63 = m % 64 := by decide +kernel
  have hx := x.toNat_lt
  have e1 : (2 : Int) ^ min 6 IntKind.i32.bits = 64 := rfl
  have e2 : (2 : Int) ^ IntKind.i32.bits = 4294967296 := rfl
  have e3 : x.toNat % 2 ^ IntKind.u8.bits = x.toNat := by rw [show (2 : Nat) ^ IntKind.u8.bits = 256 from rfl]; omega
  have e4 : 63 % 2 ^ IntKind.u8.bits = 63 := rfl
  rw [e1, e2, e3, e4, h2 _ hx, wrapR ((v : Int) * 64) (by omega) (by omega), wrapB _ (by omega) (by omega), wrapR ((x.toNat % 64 : Nat) : Int) (by omega) (by omega)]
  have a1 : ((v : Int) * 64 % 4294967296).toNat = v <<< 6 := by rw [Nat.shiftLeft_eq]; omega
  have a2 : (((x.toNat % 64 : Nat) : Int) % 4294967296).toNat = x.toNat % 64 := by omega
  rw [a1, a2, ← Nat.shiftLeft_add_eq_or_of_lt (by omega), wrapR _ (by rw [Nat.shiftLeft_eq]; omega) (by rw [Nat.shiftLeft_eq]; omega), Nat.shiftLeft_eq]
/-- By a first byte: how many bytes, its bits, the least character. -/
def leadB (c : UInt8) : Nat × Nat × Nat :=
  if c.toNat < 128 then (1, c.toNat, 0)
  else if c.toNat / 32 = 6 then (2, c.toNat % 32, 128)
  else if c.toNat / 16 = 14 then (3, c.toNat % 16, 2048)
  else if c.toNat / 8 = 30 then (4, c.toNat % 8, 65536)
  else (0, 0, 0)
def cont (c : UInt8) : Bool := decide (c.toNat / 64 = 2)
def accum (b : Nat) (l : By) : Nat := l.foldl (fun a c => a * 64 + c.toNat % 64) b
@[simp] theorem accum_nil (b : Nat) : accum b [] = b := rfl
def badC (v least : Nat) : Bool := decide (v < least) || decide (1114111 < v) || (decide (55296 ≤ v) && decide (v < 57344))
def nextM : By → Option (Nat × Nat)
  | [] => none
  | c :: t =>
    if (leadB c).1 = 0 ∨ t.length + 1 < (leadB c).1 then none
    else if (t.take ((leadB c).1 - 1)).all cont = false then none
    else if badC (accum (leadB c).2.1 (t.take ((leadB c).1 - 1))) (leadB c).2.2 then none
    else some (accum (leadB c).2.1 (t.take ((leadB c).1 - 1)), (leadB c).1)
theorem leadB_le (c : UInt8) : (leadB c).1 ≤ 4 := by
  unfold leadB; split <;> (try split) <;> (try split) <;> (try split) <;> simp
theorem leadB_bits (c : UInt8) : (leadB c).2.1 < 128 := by
  unfold leadB; split <;> (try split) <;> (try split) <;> (try split) <;> simp <;> omega
theorem accum_lt (b : Nat) (l : By) : accum b l < (b + 1) * 64 ^ l.length := by
  unfold accum
  induction l generalizing b with
  | nil => simp
  | cons c l ih =>
    have h := ih (b * 64 + c.toNat % 64)
    have h1 : c.toNat % 64 < 64 := Nat.mod_lt _ (by decide)
    have h2 : (b * 64 + c.toNat % 64 + 1) * 64 ^ l.length ≤ ((b + 1) * 64) * 64 ^ l.length := Nat.mul_le_mul_right _ (by omega)
    simp only [List.foldl_cons, List.length_cons, Nat.pow_succ]
    have h3 : (b + 1) * 64 * 64 ^ l.length = (b + 1) * (64 ^ l.length * 64) := by rw [Nat.mul_assoc, Nat.mul_comm 64]
    omega
theorem accum_small (b : Nat) (l : By) (hb : b < 128) (hl : l.length ≤ 3) : accum b l < 33554432 := by
  have h := accum_lt b l
  have h1 : (b + 1) * 64 ^ l.length ≤ 128 * 64 ^ 3 := Nat.mul_le_mul (by omega) (Nat.pow_le_pow_right (by decide) hl)
  omega
theorem accum_take (b : Nat) (l : By) (k : Nat) (c : UInt8) (h : l[k]? = some c) : accum b (l.take (k + 1)) = accum b (l.take k) * 64 + c.toNat % 64 := by
  unfold accum
  rw [List.take_add_one, h, List.foldl_append]; rfl
theorem nextM_len {l : By} {v n : Nat} (h : nextM l = some (v, n)) : 0 < n ∧ n ≤ l.length ∧ n ≤ 4 ∧ v < 1114112 := by
  cases l with
  | nil => cases h
  | cons c t =>
    rw [nextM] at h
    have := leadB_le c
    by_cases h1 : (leadB c).1 = 0 ∨ t.length + 1 < (leadB c).1
    · rw [if_pos h1] at h; cases h
    · rw [if_neg h1] at h
      by_cases h2 : (t.take ((leadB c).1 - 1)).all cont = false
      · rw [if_pos h2] at h; cases h
      · rw [if_neg h2] at h
        by_cases h3 : badC (accum (leadB c).2.1 (t.take ((leadB c).1 - 1))) (leadB c).2.2 = true
        · rw [if_pos h3] at h; cases h
        · rw [if_neg h3] at h
          simp only [Option.some.injEq, Prod.mk.injEq] at h
          simp only [badC, Bool.or_eq_true, Bool.and_eq_true, decide_eq_true_eq, not_or] at h3
          simp only [not_or] at h1
          refine ⟨by omega, by rw [List.length_cons]; omega, by omega, by omega⟩
/-- All characters of a text: number and bytes. -/
def charsF : Nat → By → Option (List (Nat × By))
  | _, [] => some []
  | 0, _ :: _ => none
  | f + 1, c :: t => match nextM (c :: t) with
    | none => none
    | some (v, n) => (charsF f ((c :: t).drop n)).map ((v, (c :: t).take n) :: ·)
def chars (l : By) : Option (List (Nat × By)) := charsF l.length l
theorem charsF_more : ∀ (f : Nat) (l : By), l.length ≤ f → charsF f l = charsF l.length l := by
  intro f
  induction f using Nat.strongRecOn with
  | ind f ih =>
    intro l hl
    cases l with
    | nil => cases f <;> rfl
    | cons c t =>
      cases f with
      | zero => simp at hl
      | succ f =>
        simp only [charsF, List.length_cons]
        cases hq : nextM (c :: t) with
        | none => rfl
        | some p =>
          obtain ⟨v, n⟩ := p
          have hn := nextM_len hq
          simp only [List.length_cons] at hl hn
          have h1 : ((c :: t).drop n).length ≤ t.length := by simp; omega
          simp only
          rw [ih f (by omega) _ (by omega), ih t.length (by omega) _ h1]
theorem chars_nil : chars [] = some [] := rfl
theorem chars_cons {l : By} (hne : l ≠ []) : chars l = match nextM l with
    | none => none
    | some (v, n) => (chars (l.drop n)).map ((v, l.take n) :: ·) := by
  cases l with
  | nil => exact absurd rfl hne
  | cons c t =>
    unfold chars
    simp only [List.length_cons, charsF]
    cases hq : nextM (c :: t) with
    | none => rfl
    | some p =>
      obtain ⟨v, n⟩ := p
      have hn := nextM_len hq
      simp only [List.length_cons] at hn
      simp only
      rw [charsF_more t.length _ (by simp; omega)]
/-- A text's characters, from a place on. -/
def Left (l : By) (cs : List (Nat × By)) (r : By) : Prop := chars l = (chars r).map (cs ++ ·) ∧ r.length + cs.length ≤ l.length
theorem Left.start (l : By) : Left l [] l := ⟨by simp, by simp⟩
theorem Left.none {l r : By} {cs : List (Nat × By)} (h : Left l cs r) (hr : r ≠ []) (hn : nextM r = none) : chars l = none := by
  rw [h.1, chars_cons hr, hn]; rfl
theorem Left.step {l r : By} {cs : List (Nat × By)} {v n : Nat} (h : Left l cs r) (hr : r ≠ []) (hn : nextM r = some (v, n)) : Left l (cs ++ [(v, r.take n)]) (r.drop n) := by
  have hk := nextM_len hn
  refine ⟨?_, by have := h.2; simp; omega⟩
  rw [h.1, chars_cons hr, hn]
  simp only [Option.map_map]
  congr 1
  funext x
  simp
theorem Left.last {l : By} {cs : List (Nat × By)} (h : Left l cs []) : chars l = some cs := by
  rw [h.1, chars_nil]; simp
end Go.Pv
namespace Go.Pv
/-! ### Kinds of characters, small letters, prepared texts -/
def blankC (v : Nat) : Bool := (decide (9 ≤ v) && decide (v ≤ 13)) || decide (v = 32) || decide (v = 133) || decide (v = 160)
def nothC (v : Nat) : Bool := (decide (v < 32) && !blankC v) || decide (v = 127) || decide (v = 173) || decide (v = 8203)
def kindN (v : Nat) : Nat := if blankC v then 0 else if nothC v then 1 else 2
theorem blank_noth (v : Nat) (h : blankC v = true) : nothC v = false := by
  simp only [blankC, nothC, Bool.or_eq_true, Bool.and_eq_true, decide_eq_true_eq, Bool.or_eq_false_iff, Bool.and_eq_false_iff, decide_eq_false_iff_not, Bool.not_eq_false'] at *
  omega
def capC (v : Nat) : Bool := (decide (65 ≤ v) && decide (v ≤ 90)) || (decide (192 ≤ v) && decide (v ≤ 222) && !decide (v = 215))
def smallM (v : Nat) (own : By) : By := if capC v then (Utf8.encode ((v : Int) + 32)).data.toList else own
def prepStep (ends letters : Bool) (st : Bool × By) (c : Nat × By) : Bool × By :=
  if kindN c.1 = 1 then st else if kindN c.1 = 0 then (true, st.2)
  else (false, st.2 ++ (if st.1 && (ends || !st.2.isEmpty) then [32] else []) ++ (if letters then smallM c.1 c.2 else c.2))
def prepR (ends letters : Bool) (cs : List (Nat × By)) : Bool × By := cs.foldl (prepStep ends letters) (false, [])
def prepC (ends letters : Bool) (cs : List (Nat × By)) : By := (prepR ends letters cs).2 ++ (if (prepR ends letters cs).1 && ends then [32] else [])
def prepM (ends letters : Bool) (l : By) : By := match chars l with
  | none => l
  | some cs => prepC ends letters cs
theorem prepR_snoc (ends letters : Bool) (cs : List (Nat × By)) (c : Nat × By) : prepR ends letters (cs ++ [c]) = prepStep ends letters (prepR ends letters cs) c := by
  simp [prepR, List.foldl_append]
theorem smallM_len (v : Nat) (own : By) (h : capC v = true) : (smallM v own).length ≤ 4 := by
  rw [smallM, if_pos h]
  simp only [capC, Bool.or_eq_true, Bool.and_eq_true, decide_eq_true_eq] at h
  have : v < 256 := by rcases h with h | h <;> omega
  have key : ∀ v : Nat, v < 256 → (Utf8.encode ((v : Int) + 32)).data.toList.length ≤ 4 := by decide +kernel
  exact key v this
theorem prepR_len (ends letters : Bool) : ∀ (cs : List (Nat × By)), (∀ c ∈ cs, c.2.length ≤ 4) → (prepR ends letters cs).2.length ≤ 5 * cs.length := by
  intro cs
  suffices h : ∀ (r : List (Nat × By)) (m : Nat) (st : Bool × By), (∀ c ∈ r, c.2.length ≤ 4) → st.2.length ≤ m → (r.foldl (prepStep ends letters) st).2.length ≤ m + 5 * r.length by
    intro hc
    have := h cs 0 (false, []) hc (by simp)
    simpa [prepR] using this
  intro r
  induction r with
  | nil => intro m st _ hm; simpa using hm
  | cons c r ih =>
    intro m st hc hm
    simp only [List.foldl_cons, List.length_cons]
    have h1 : (prepStep ends letters st c).2.length ≤ m + 5 := by
      unfold prepStep
      split
      · omega
      · split
        · simp only; omega
        · simp only [List.length_append]
          have h2 : (if letters then smallM c.1 c.2 else c.2).length ≤ 4 := by
            split
            · by_cases q : capC c.1 = true
              · exact smallM_len _ _ q
              · rw [smallM, if_neg q]; exact hc c (by simp)
            · exact hc c (by simp)
          have h3 : (if st.1 && (ends || !st.2.isEmpty) then [32] else ([] : By)).length ≤ 1 := by split <;> simp
          omega
    have := ih (m + 5) _ (fun x hx => hc x (by simp [hx])) h1
    omega
/-- The bytes of a character are at most four. -/
theorem chars_own : ∀ (f : Nat) (l : By) (cs : List (Nat × By)), charsF f l = some cs → ∀ c ∈ cs, c.2.length ≤ 4 := by
  intro f
  induction f with
  | zero => intro l cs h; cases l with
    | nil => cases h; simp
    | cons => cases h
  | succ f ih =>
    intro l cs h
    cases l with
    | nil => cases h; simp
    | cons c t =>
      simp only [charsF] at h
      cases hq : nextM (c :: t) with
      | none => rw [hq] at h; cases h
      | some p =>
        obtain ⟨v, n⟩ := p
        rw [hq] at h
        simp only [Option.map_eq_some_iff] at h
        obtain ⟨r, hr, rfl⟩ := h
        have := nextM_len hq
        intro x hx
        rcases List.mem_cons.1 hx with rfl | hx
        · simp; omega
        · exact ih _ _ hr x hx
/-- The bytes of a character with an accent. -/
def OwnC (v : Nat) (own : By) : Prop := 192 ≤ v → v ≤ 222 → own = [195, UInt8.ofNat (v - 64)]
theorem nextM_own {l : By} {v n : Nat} (h : nextM l = some (v, n)) : OwnC v (l.take n) := by
  intro h1 h2
  cases l with
  | nil => cases h
  | cons c t =>
    rw [nextM] at h
    by_cases a1 : (leadB c).1 = 0 ∨ t.length + 1 < (leadB c).1
    · rw [if_pos a1] at h; cases h
    rw [if_neg a1] at h
    by_cases a2 : (t.take ((leadB c).1 - 1)).all cont = false
    · rw [if_pos a2] at h; cases h
    rw [if_neg a2] at h
    by_cases a3 : badC (accum (leadB c).2.1 (t.take ((leadB c).1 - 1))) (leadB c).2.2 = true
    · rw [if_pos a3] at h; cases h
    rw [if_neg a3] at h
    simp only [Option.some.injEq, Prod.mk.injEq] at h
    obtain ⟨hv, rfl⟩ := h
    rw [hv] at a3
    simp only [badC, Bool.or_eq_true, Bool.and_eq_true, decide_eq_true_eq, not_or] at a3
    have hx := c.toNat_lt
    by_cases b1 : c.toNat < 128
    · have hq : leadB c = (1, c.toNat, 0) := by simp [leadB, b1]
      rw [hq] at hv
      simp [accum] at hv
      omega
    by_cases b2 : c.toNat / 32 = 6
    · have hq : leadB c = (2, c.toNat % 32, 128) := by simp [leadB, b1, b2]
      rw [hq] at hv a1 a2 ⊢
      cases t with
      | nil => simp at a1
      | cons x t =>
        simp [accum] at hv
        simp [cont] at a2
        have hxl := x.toNat_lt
        have e1 : c.toNat = 195 := by omega
        have e2 : x.toNat = v - 64 := by omega
        have e3 : c = 195 := UInt8.toNat_inj.1 (by rw [e1]; rfl)
        have e4 : x = UInt8.ofNat (v - 64) := by rw [← e2]; simp
        simp [e3, e4]
    by_cases b3 : c.toNat / 16 = 14
    · have hq : leadB c = (3, c.toNat % 16, 2048) := by simp [leadB, b1, b2, b3]
      rw [hq] at a3; simp only at a3; omega
    by_cases b4 : c.toNat / 8 = 30
    · have hq : leadB c = (4, c.toNat % 8, 65536) := by simp [leadB, b1, b2, b3, b4]
      rw [hq] at a3; simp only at a3; omega
    · have hq : leadB c = (0, 0, 0) := by simp [leadB, b1, b2, b3, b4]
      rw [hq] at a1; simp at a1
theorem encode_small (v : Nat) (h1 : 65 ≤ v) (h2 : v ≤ 90) : (Utf8.encode ((v : Int) + 32)).data.toList = [UInt8.ofNat (v + 32)] := by
  have key : ∀ v : Nat, v < 91 → 65 ≤ v → (Utf8.encode ((v : Int) + 32)).data.toList = [UInt8.ofNat (v + 32)] := by decide +kernel
  exact key v (by omega) h1
theorem encode_accent (v : Nat) (h1 : 192 ≤ v) (h2 : v ≤ 222) : (Utf8.encode ((v : Int) + 32)).data.toList = [195, UInt8.ofNat (v - 32)] := by
  have key : ∀ v : Nat, v < 223 → 192 ≤ v → (Utf8.encode ((v : Int) + 32)).data.toList = [195, UInt8.ofNat (v - 32)] := by decide +kernel
  exact key v (by omega) h1
theorem smallM_pos (v : Nat) (own : By) (h : own ≠ []) : smallM v own ≠ [] := by
  by_cases q : capC v = true
  · rw [smallM, if_pos q]
    simp only [capC, Bool.or_eq_true, Bool.and_eq_true, decide_eq_true_eq] at q
    rcases q with q | q
    · rw [encode_small v (by omega) (by omega)]; simp
    · rw [encode_accent v (by omega) (by omega)]; simp
  · rw [smallM, if_neg q]; exact h
end Go.Pv
namespace Go.Pv
/-! ### Texts put together; a text between two marks -/
theorem nextM_app {l : By} {v n : Nat} (h : nextM l = some (v, n)) (b : By) : nextM (l ++ b) = some (v, n) := by
  cases l with
  | nil => cases h
  | cons c t =>
    rw [nextM] at h
    rw [List.cons_append, nextM]
    have := leadB_le c
    by_cases h1 : (leadB c).1 = 0 ∨ t.length + 1 < (leadB c).1
    · rw [if_pos h1] at h; cases h
    · rw [if_neg h1] at h
      simp only [not_or] at h1
      have h1' : ¬ ((leadB c).1 = 0 ∨ (t ++ b).length + 1 < (leadB c).1) := by simp only [List.length_append, not_or]; omega
      have ht : (t ++ b).take ((leadB c).1 - 1) = t.take ((leadB c).1 - 1) := List.take_append_of_le_length (by omega)
      rw [if_neg h1', ht]
      exact h
theorem chars_app : ∀ (n : Nat) (a b : By) (cs : List (Nat × By)), a.length ≤ n → chars a = some cs → chars (a ++ b) = (chars b).map (cs ++ ·) := by
  intro n
  induction n with
  | zero =>
    intro a b cs hn h
    have : a = [] := List.length_eq_zero_iff.1 (by omega)
    subst this
    rw [chars_nil] at h
    cases h
    simp
  | succ n ih =>
    intro a b cs hn h
    cases ha : a with
    | nil => subst ha; rw [chars_nil] at h; cases h; simp
    | cons c t =>
      rw [← ha]
      have hne : a ≠ [] := by rw [ha]; simp
      have hne2 : a ++ b ≠ [] := by rw [ha]; simp
      rw [chars_cons hne] at h
      cases hq : nextM a with
      | none => rw [hq] at h; cases h
      | some p =>
        obtain ⟨v, m⟩ := p
        have hm := nextM_len hq
        rw [hq] at h
        simp only at h
        obtain ⟨ds, hds, rfl⟩ := Option.map_eq_some_iff.1 h
        rw [chars_cons hne2, nextM_app hq b]
        simp only
        have hd : (a ++ b).drop m = a.drop m ++ b := List.drop_append_of_le_length (by omega)
        have ht : (a ++ b).take m = a.take m := List.take_append_of_le_length (by omega)
        rw [hd, ht, ih (a.drop m) b ds (by simp; omega) hds, Option.map_map]
        congr 1
theorem prepStep_len (ends letters : Bool) (st : Bool × By) (c : Nat × By) : st.2.length ≤ (prepStep ends letters st c).2.length := by
  unfold prepStep
  split
  · omega
  · split
    · simp
    · simp
theorem prepR_grow (ends letters : Bool) : ∀ (cs : List (Nat × By)) (st : Bool × By), st.2.length ≤ (cs.foldl (prepStep ends letters) st).2.length
  | [], st => Nat.le_refl _
  | c :: cs, st => Nat.le_trans (prepStep_len ends letters st c) (prepR_grow ends letters cs _)
def mark (p : By) : By := prepM false false (120 :: (p ++ [120]))
theorem chars_mark {p : By} {cs : List (Nat × By)} (h : chars p = some cs) : chars (120 :: (p ++ [120])) = some ((120, [120]) :: (cs ++ [(120, [120])])) := by
  have h1 : chars [120] = some [(120, [120])] := by decide +kernel
  have h2 := chars_app p.length p [120] cs (Nat.le_refl _) h
  have h3 := chars_app 1 [120] (p ++ [120]) _ (by decide) h1
  rw [h2, h1] at h3
  exact h3
theorem mark_len {p : By} {cs : List (Nat × By)} (h : chars p = some cs) : 2 ≤ (mark p).length := by
  have hx : ∀ st : Bool × By, st.2.length + 1 ≤ (prepStep false false st (120, [120])).2.length := fun st => by
    have : kindN 120 = 2 := by decide
    unfold prepStep
    rw [this]
    simp
  unfold mark prepM
  rw [chars_mark h]
  show 2 ≤ (prepC _ _ _).length
  unfold prepC
  rw [List.length_append]
  refine Nat.le_trans ?_ (Nat.le_add_right _ _)
  rw [← List.cons_append, prepR_snoc]
  refine Nat.le_trans ?_ (hx _)
  refine Nat.add_le_add_right (n := 1) ?_ 1
  show 1 ≤ (List.foldl _ (prepStep false false (false, []) (120, [120])) cs).2.length
  exact Nat.le_trans (hx (false, [])) (prepR_grow _ _ _ _)
theorem mark_bound (p : By) (hp : p.length ≤ 90000) : (mark p).length ≤ 1000000 := by
  unfold mark prepM
  cases hc : chars (120 :: (p ++ [120])) with
  | none => simp; omega
  | some cs =>
    simp only
    have h1 : ∀ c ∈ cs, c.2.length ≤ 4 := chars_own _ _ _ hc
    have h2 := prepR_len false false cs h1
    have h3 : cs.length ≤ p.length + 2 := by
      have : ∀ (n : Nat) (l : By) (cs : List (Nat × By)), l.length ≤ n → chars l = some cs → cs.length ≤ l.length := by
        intro n
        induction n with
        | zero => intro l cs hn h; have : l = [] := List.length_eq_zero_iff.1 (by omega); subst this; rw [chars_nil] at h; cases h; simp
        | succ n ih =>
          intro l cs hn h
          by_cases hl : l = []
          · subst hl; rw [chars_nil] at h; cases h; simp
          · rw [chars_cons hl] at h
            cases hq : nextM l with
            | none => rw [hq] at h; cases h
            | some q =>
              obtain ⟨v, m⟩ := q
              have hm := nextM_len hq
              rw [hq] at h
              simp only at h
              obtain ⟨ds, hds, rfl⟩ := Option.map_eq_some_iff.1 h
              have := ih (l.drop m) ds (by simp; omega) hds
              simp at this ⊢
              omega
      have := this _ _ _ (Nat.le_refl _) hc
      simpa using this
    unfold prepC
    rw [List.length_append]
    split
    · simp; omega
    · simp; omega
/-- A part, where letters count. -/
def exactP (p : By) : By := if (chars p).isSome = true then ((mark p).take ((mark p).length - 1)).drop 1 else p
def pieceM (s : Int) (p : By) : By × Bool := if s = 1 then (prepM true true p, true) else if s = 2 then (exactP p, true) else if s = 7 then (p.filter (· != 32), true) else ([], false)
end Go.Pv
