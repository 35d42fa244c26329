/- A part of the proof: functions of the program, walked, or what operations come to. -/
import Derived.Test.YtnmpinbfddjhmaaPvF1
namespace Go.Pv
/-! ### Prepared texts, by their characters: what is prepared stays as it is -/
abbrev Ch := Nat × By
def bl : Ch := (32, [32])
def cat (cs : List Ch) : By := cs.flatMap (·.2)
@[simp] theorem cat_nil : cat [] = [] := rfl
@[simp] theorem cat_cons (c : Ch) (cs : List Ch) : cat (c :: cs) = c.2 ++ cat cs := by simp [cat]
@[simp] theorem cat_app (a b : List Ch) : cat (a ++ b) = cat a ++ cat b := by simp [cat]
def Vd (c : Ch) : Prop := nextM c.2 = some (c.1, c.2.length)
theorem Vd.ne {c : Ch} (h : Vd c) : c.2 ≠ [] := by
  intro e
  unfold Vd at h
  rw [e] at h
  cases h
theorem vd_bl : Vd bl := by unfold Vd bl; decide +kernel
theorem vd_chars {c : Ch} (h : Vd c) : chars c.2 = some [c] := by
  rw [chars_cons h.ne, h]
  simp only [List.drop_length, List.take_length, chars_nil]
  rfl
theorem chars_cat : ∀ (cs : List Ch), (∀ c ∈ cs, Vd c) → chars (cat cs) = some cs
  | [], _ => rfl
  | c :: cs, h => by
    rw [cat_cons, chars_app c.2.length c.2 (cat cs) [c] (Nat.le_refl _) (vd_chars (h c (by simp))), chars_cat cs (fun d hd => h d (by simp [hd]))]
    rfl
theorem nextM_take {l : By} {v n : Nat} (h : nextM l = some (v, n)) : nextM (l.take n) = some (v, n) := by
  cases l with
  | nil => cases h
  | cons c t =>
    have hl := nextM_len h
    rw [nextM] at h
    by_cases h1 : (leadB c).1 = 0 ∨ t.length + 1 < (leadB c).1
    · rw [if_pos h1] at h; cases h
    · rw [if_neg h1] at h
      have hn : (leadB c).1 = n := by
        split at h
        · cases h
        · split at h
          · cases h
          · cases h; rfl
      simp only [not_or] at h1
      obtain ⟨k, rfl⟩ : ∃ k, n = k + 1 := ⟨n - 1, by omega⟩
      rw [List.take_succ_cons, nextM]
      have h2 : ¬ ((leadB c).1 = 0 ∨ (t.take k).length + 1 < (leadB c).1) := by rw [List.length_take]; simp only [not_or]; omega
      have h3 : (t.take k).take ((leadB c).1 - 1) = t.take ((leadB c).1 - 1) := by rw [List.take_take]; congr 1; omega
      rw [if_neg h2, h3]
      exact h
theorem chars_vd : ∀ (n : Nat) (l : By) (cs : List Ch), l.length ≤ n → chars l = some cs → (∀ c ∈ cs, Vd c) ∧ cat cs = l := by
  intro n
  induction n with
  | zero =>
    intro l cs hn h
    have : l = [] := List.length_eq_zero_iff.1 (by omega)
    subst this
    rw [chars_nil] at h
    cases h
    exact ⟨fun c hc => (by cases hc), rfl⟩
  | succ n ih =>
    intro l cs hn h
    by_cases hl : l = []
    · subst hl; rw [chars_nil] at h; cases h; exact ⟨fun c hc => (by cases hc), rfl⟩
    · rw [chars_cons hl] at h
      cases hq : nextM l with
      | none => rw [hq] at h; cases h
      | some q =>
        obtain ⟨v, m⟩ := q
        have hm := nextM_len hq
        rw [hq] at h
        simp only at h
        obtain ⟨ds, hds, rfl⟩ := Option.map_eq_some_iff.1 h
        obtain ⟨h1, h2⟩ := ih (l.drop m) ds (by simp; omega) hds
        refine ⟨fun c hc => ?_, by rw [cat_cons, h2]; exact List.take_append_drop _ _⟩
        rcases List.mem_cons.1 hc with rfl | hc
        · show nextM (l.take m) = some (v, (l.take m).length)
          rw [List.length_take, show min m l.length = m by omega]
          exact nextM_take hq
        · exact h1 c hc
theorem smallM_cap {v : Nat} (h : capC v = true) (a b : By) : smallM v a = smallM v b := by
  unfold smallM
  rw [if_pos h, if_pos h]
theorem smallM_own {v : Nat} (h : capC v = false) (a : By) : smallM v a = a := by
  unfold smallM
  rw [h]
  exact if_neg (by decide)
def smallC (letters : Bool) (c : Ch) : Ch := if letters && capC c.1 then (c.1 + 32, smallM c.1 c.2) else c
theorem smallC_bytes (letters : Bool) (c : Ch) : (smallC letters c).2 = if letters then smallM c.1 c.2 else c.2 := by
  unfold smallC
  cases letters with
  | false => simp only [Bool.false_and, Bool.false_eq_true, if_false]
  | true =>
    cases h : capC c.1 with
    | true => simp only [Bool.and_self, if_true]
    | false =>
      have := smallM_own h c.2
      simp only [Bool.and_false, Bool.false_eq_true, if_false, if_true]
      exact this.symm
/-- A character as it stands in a prepared text. -/
def OkCh (letters : Bool) (c : Ch) : Prop := Vd c ∧ kindN c.1 ≠ 1 ∧ (kindN c.1 = 0 → c = bl) ∧ (letters = true → capC c.1 = false)
theorem ok_bl (letters : Bool) : OkCh letters bl := ⟨vd_bl, by decide, fun _ => rfl, fun _ => by decide⟩
set_option maxRecDepth 100000 in
theorem small_ok {letters : Bool} {c : Ch} (hv : Vd c) (h0 : kindN c.1 ≠ 0) (h1 : kindN c.1 ≠ 1) : OkCh letters (smallC letters c) ∧ kindN (smallC letters c).1 ≠ 0 := by
  have key : ∀ v : Nat, v < 256 → capC v = true → nextM (smallM v []) = some (v + 32, (smallM v []).length) ∧ kindN (v + 32) = 2 ∧ capC (v + 32) = false := by decide +kernel
  unfold smallC
  cases hl : letters && capC c.1 with
  | true =>
    simp only [Bool.and_eq_true] at hl
    have hc : c.1 < 256 := by
      have h := hl.2
      simp only [capC, Bool.or_eq_true, Bool.and_eq_true, decide_eq_true_eq] at h
      rcases h with h | h <;> omega
    obtain ⟨k1, k2, k3⟩ := key c.1 hc hl.2
    simp only [if_true]
    rw [smallM_cap hl.2 c.2 []]
    generalize smallM c.1 [] = E at k1 ⊢
    exact ⟨⟨k1, (by show kindN (c.1 + 32) ≠ 1; rw [k2]; decide), fun q => (by have q : kindN (c.1 + 32) = 0 := q; rw [k2] at q; cases q), fun _ => k3⟩, (by show kindN (c.1 + 32) ≠ 0; rw [k2]; decide)⟩
  | false =>
    simp only [Bool.false_eq_true, if_false]
    refine ⟨⟨hv, h1, fun q => absurd q h0, fun q => ?_⟩, h0⟩
    rw [q] at hl
    simpa using hl
theorem kind_cases (v : Nat) : kindN v = 0 ∨ kindN v = 1 ∨ kindN v = 2 := by unfold kindN; split <;> (try split) <;> simp
def stepL (ends letters : Bool) (st : Bool × List Ch) (c : Ch) : Bool × List Ch :=
  if kindN c.1 = 1 then st else if kindN c.1 = 0 then (true, st.2)
  else (false, st.2 ++ (if st.1 && (ends || !st.2.isEmpty) then [bl] else []) ++ [smallC letters c])
def runL (ends letters : Bool) (cs : List Ch) : Bool × List Ch := cs.foldl (stepL ends letters) (false, [])
def prepL (ends letters : Bool) (cs : List Ch) : List Ch := (runL ends letters cs).2 ++ (if (runL ends letters cs).1 && ends then [bl] else [])
theorem cat_empty {cs : List Ch} (h : ∀ c ∈ cs, Vd c) : (cat cs).isEmpty = cs.isEmpty := by
  cases cs with
  | nil => rfl
  | cons c cs =>
    rw [cat_cons]
    have := (h c (by simp)).ne
    cases hc : c.2 with
    | nil => exact absurd hc this
    | cons x y => rfl
/-- No two blanks side by side. -/
def NoDbl : List Ch → Prop
  | [] => True
  | [_] => True
  | a :: b :: l => ¬ (kindN a.1 = 0 ∧ kindN b.1 = 0) ∧ NoDbl (b :: l)
def lastB (cs : List Ch) : Bool := match cs.getLast? with
  | some c => decide (kindN c.1 = 0)
  | none => false
def headB (cs : List Ch) : Bool := match cs.head? with
  | some c => decide (kindN c.1 = 0)
  | none => false
theorem NoDbl.snoc {cs : List Ch} {c : Ch} (h : NoDbl cs) (hc : ¬ (lastB cs = true ∧ kindN c.1 = 0)) : NoDbl (cs ++ [c]) := by
  induction cs with
  | nil => trivial
  | cons a l ih =>
    cases l with
    | nil =>
      refine ⟨fun q => hc ⟨?_, q.2⟩, trivial⟩
      simp [lastB, q.1]
    | cons b l =>
      refine ⟨h.1, ih h.2 fun q => hc ⟨?_, q.2⟩⟩
      have := q.1
      unfold lastB at this ⊢
      simpa using this
theorem NoDbl.tail {a : Ch} {cs : List Ch} (h : NoDbl (a :: cs)) : NoDbl cs := by
  cases cs with
  | nil => trivial
  | cons b l => exact h.2
theorem NoDbl.app {a b : List Ch} (h : NoDbl (a ++ b)) : NoDbl a ∧ NoDbl b := by
  induction a with
  | nil => exact ⟨trivial, h⟩
  | cons x a ih =>
    have h1 := ih h.tail
    refine ⟨?_, h1.2⟩
    cases a with
    | nil => trivial
    | cons y a => exact ⟨h.1, h1.1⟩
structure RunInv (ends letters : Bool) (st : Bool × List Ch) : Prop where
  ok : ∀ c ∈ st.2, OkCh letters c
  dbl : NoDbl st.2
  last : lastB st.2 = false
  head : ends = false → headB st.2 = false
theorem lastB_snoc (cs : List Ch) (c : Ch) : lastB (cs ++ [c]) = decide (kindN c.1 = 0) := by simp [lastB]
theorem headB_app (cs ds : List Ch) : headB (cs ++ ds) = if cs.isEmpty then headB ds else headB cs := by
  cases cs with
  | nil => rfl
  | cons c cs => rfl
theorem run_inv (ends letters : Bool) : ∀ (cs : List Ch) (st : Bool × List Ch), (∀ c ∈ cs, Vd c) → RunInv ends letters st → RunInv ends letters (cs.foldl (stepL ends letters) st)
  | [], st, _, h => h
  | c :: cs, st, hv, h => by
    refine run_inv ends letters cs _ (fun d hd => hv d (by simp [hd])) ?_
    unfold stepL
    split
    · exact h
    · rename_i h1
      split
      · exact ⟨h.ok, h.dbl, h.last, h.head⟩
      · rename_i h0
        obtain ⟨k1, k2⟩ := small_ok (letters := letters) (hv c (by simp)) h0 h1
        have hb : ∀ d ∈ st.2 ++ (if st.1 && (ends || !st.2.isEmpty) then [bl] else []), OkCh letters d := fun d hd => by
          rcases List.mem_append.1 hd with hd | hd
          · exact h.ok d hd
          · split at hd
            · simp at hd; subst hd; exact ok_bl _
            · cases hd
        have hd1 : NoDbl (st.2 ++ (if st.1 && (ends || !st.2.isEmpty) then [bl] else [])) := by
          split
          · exact h.dbl.snoc fun q => by rw [h.last] at q; cases q.1
          · simpa using h.dbl
        refine ⟨fun d hd => ?_, hd1.snoc fun q => k2 q.2, ?_, fun he => ?_⟩
        · rcases List.mem_append.1 hd with hd | hd
          · exact hb d hd
          · simp at hd; subst hd; exact k1
        · rw [lastB_snoc]; exact decide_eq_false k2
        · rw [headB_app, headB_app]
          cases hs : st.2 with
          | nil => simp [he, headB, k2]
          | cons a l => have := h.head he; rw [hs] at this; simpa using this
theorem run_prep (ends letters : Bool) : ∀ (cs : List Ch) (st : Bool × List Ch), (∀ c ∈ cs, Vd c) → (∀ c ∈ st.2, Vd c) → cs.foldl (prepStep ends letters) (st.1, cat st.2) = ((cs.foldl (stepL ends letters) st).1, cat (cs.foldl (stepL ends letters) st).2)
  | [], st, _, _ => rfl
  | c :: cs, st, hv, hs => by
    rw [List.foldl_cons, List.foldl_cons]
    have hstep : prepStep ends letters (st.1, cat st.2) c = ((stepL ends letters st c).1, cat (stepL ends letters st c).2) := by
      unfold prepStep stepL
      split
      · rfl
      · split
        · rfl
        · rw [cat_empty hs]
          simp only [cat_app, cat_cons, cat_nil, List.append_nil, smallC_bytes]
          congr 2
          split <;> simp [bl]
    rw [hstep]
    refine run_prep ends letters cs (stepL ends letters st c) (fun d hd => hv d (by simp [hd])) ?_
    unfold stepL
    split
    · exact hs
    · rename_i h1
      split
      · exact hs
      · rename_i h0
        intro d hd
        rcases List.mem_append.1 hd with hd | hd
        · rcases List.mem_append.1 hd with hd | hd
          · exact hs d hd
          · split at hd
            · simp at hd; subst hd; exact vd_bl
            · cases hd
        · simp at hd; subst hd; exact (small_ok (letters := letters) (hv c (by simp)) h0 h1).1.1
theorem prep_cat (ends letters : Bool) (cs : List Ch) (hv : ∀ c ∈ cs, Vd c) : prepC ends letters cs = cat (prepL ends letters cs) := by
  have h := run_prep ends letters cs (false, []) hv (fun c hc => by cases hc)
  unfold prepC prepR prepL runL
  rw [show (cat ([] : List Ch)) = [] from rfl] at h
  simp only at h
  rw [h]
  simp only [cat_app]
  split <;> simp [bl]
/-- What is prepared: its characters are right, no two blanks side by side; without ends: none ahead, none behind. -/
theorem prepL_nf (ends letters : Bool) (cs : List Ch) (hv : ∀ c ∈ cs, Vd c) : (∀ c ∈ prepL ends letters cs, OkCh letters c) ∧ NoDbl (prepL ends letters cs) ∧ (ends = false → headB (prepL ends letters cs) = false ∧ lastB (prepL ends letters cs) = false) := by
  have h := run_inv ends letters cs (false, []) hv ⟨fun c hc => (by cases hc), trivial, rfl, fun _ => rfl⟩
  unfold prepL
  refine ⟨fun c hc => ?_, ?_, fun he => ?_⟩
  · rcases List.mem_append.1 hc with hc | hc
    · exact h.ok c hc
    · split at hc
      · simp at hc; subst hc; exact ok_bl _
      · cases hc
  · split
    · exact h.dbl.snoc fun q => by have := h.last; rw [this] at q; cases q.1
    · rw [List.append_nil]; exact h.dbl
  · subst he
    simp only [Bool.and_false, Bool.false_eq_true, if_false, List.append_nil]
    exact ⟨h.head rfl, h.last⟩
theorem run_id (ends letters : Bool) : ∀ (ds : List Ch) (b : Bool) (out : List Ch), (∀ c ∈ ds, OkCh letters c) → NoDbl ds → ¬ (b = true ∧ headB ds = true) → (ends = true ∨ out ≠ [] ∨ (b = false ∧ headB ds = false)) →
    (ds.foldl (stepL ends letters) (b, out)).2 ++ (if (ds.foldl (stepL ends letters) (b, out)).1 then [bl] else []) = out ++ (if b then [bl] else []) ++ ds ∧ (ds.foldl (stepL ends letters) (b, out)).1 = (if ds.isEmpty then b else lastB ds)
  | [], b, out, _, _, _, _ => ⟨by rw [List.append_nil]; rfl, rfl⟩
  | c :: ds, b, out, hok, hd, hb, hp => by
    have hc := hok c (by simp)
    have hok2 : ∀ d ∈ ds, OkCh letters d := fun d hd => hok d (by simp [hd])
    have hlast : lastB (c :: ds) = if ds.isEmpty then decide (kindN c.1 = 0) else lastB ds := by
      cases ds with
      | nil => simp [lastB]
      | cons a l => simp [lastB]
    rw [List.foldl_cons]
    by_cases h0 : kindN c.1 = 0
    · have hcb := hc.2.2.1 h0
      have hb0 : b = false := by
        cases b with
        | false => rfl
        | true => exact absurd ⟨rfl, by simp [headB, h0]⟩ hb
      subst hb0
      have hs : stepL ends letters (false, out) c = (true, out) := by
        unfold stepL
        rw [if_neg (by omega), if_pos h0]
      rw [hs]
      have hhd : headB ds = false := by
        cases ds with
        | nil => rfl
        | cons a l => simp [headB]; exact fun q => hd.1 ⟨h0, q⟩
      have ih := run_id ends letters ds true out hok2 hd.tail (fun q => by rw [hhd] at q; cases q.2) (by
        rcases hp with hp | hp | hp
        · exact .inl hp
        · exact .inr (.inl hp)
        · have := hp.2; simp [headB, h0] at this)
      refine ⟨by rw [ih.1, hcb]; simp, ?_⟩
      rw [ih.2, hlast]
      simp [h0]
    · have hs : stepL ends letters (b, out) c = (false, out ++ (if b then [bl] else []) ++ [c]) := by
        unfold stepL
        rw [if_neg hc.2.1, if_neg h0]
        have hsm : smallC letters c = c := by
          unfold smallC
          cases hl : letters with
          | false => rfl
          | true => rw [hc.2.2.2 hl]; rfl
        rw [hsm]
        cases b with
        | false => rfl
        | true =>
          have : (ends || !out.isEmpty) = true := by
            rcases hp with hp | hp | hp
            · rw [hp]; rfl
            · cases out with
              | nil => exact absurd rfl hp
              | cons a l => simp
            · cases hp.1
          simp only [Bool.true_and, this]
      rw [hs]
      have ih := run_id ends letters ds false (out ++ (if b then [bl] else []) ++ [c]) hok2 hd.tail (fun q => by cases q.1) (.inr (.inl (by simp)))
      refine ⟨by rw [ih.1]; simp, ?_⟩
      rw [ih.2, hlast]
      simp [h0]
/-- What is prepared stays so. -/
theorem prepL_id {ends letters : Bool} {ds : List Ch} (hok : ∀ c ∈ ds, OkCh letters c) (hd : NoDbl ds) (he : ends = true ∨ (headB ds = false ∧ lastB ds = false)) : prepL ends letters ds = ds := by
  have h := run_id ends letters ds false [] hok hd (fun q => by cases q.1) (by
    rcases he with he | he
    · exact .inl he
    · exact .inr (.inr ⟨rfl, he.1⟩))
  unfold prepL runL
  rcases he with he | he
  · rw [he] at h ⊢
    simp only [Bool.and_true]
    simpa using h.1
  · have hf : (ds.foldl (stepL ends letters) (false, [])).1 = false := by
      rw [h.2]
      split
      · rfl
      · exact he.2
    rw [hf] at h ⊢
    simpa using h.1
theorem prepM_of {ends letters : Bool} {l : By} {cs : List Ch} (h : chars l = some cs) : prepM ends letters l = cat (prepL ends letters cs) := by
  obtain ⟨hv, _⟩ := chars_vd _ _ _ (Nat.le_refl _) h
  unfold prepM
  rw [h]
  exact prep_cat ends letters cs hv
/-- A text of such characters stays as it is. -/
theorem prepM_id {ends letters : Bool} {ds : List Ch} (hok : ∀ c ∈ ds, OkCh letters c) (hd : NoDbl ds) (he : ends = true ∨ (headB ds = false ∧ lastB ds = false)) : prepM ends letters (cat ds) = cat ds := by
  rw [prepM_of (chars_cat ds fun c hc => (hok c hc).1), prepL_id hok hd he]
end Go.Pv
