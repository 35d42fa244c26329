/- A part of the proof: functions of the program, walked, or what operations come to. -/
import Derived.Test.YtnmpinbfddjhmaaPvX5
namespace Go.Pv
/-! ### A value is found by its key: plain laws -/
theorem vd_first {c : Ch} (h : Vd c) (t : By) (hc : c.2 = 32 :: t) : c.1 = 32 := by
  unfold Vd at h
  rw [hc, nextM] at h
  have hl : leadB 32 = (1, 32, 0) := by decide +kernel
  rw [hl] at h
  simp only [Nat.sub_self, List.take_zero] at h
  split at h
  · cases h
  · split at h
    · cases h
    · split at h
      · cases h
      · simp only [Option.some.injEq, Prod.mk.injEq] at h
        exact h.1.symm
theorem vd_last {c : Ch} (h : Vd c) (hc : c.2.getLast? = some 32) : c.1 = 32 := by
  obtain ⟨x, t, hx⟩ : ∃ x t, c.2 = x :: t := by
    cases q : c.2 with
    | nil => exact absurd q h.ne
    | cons x t => exact ⟨x, t, rfl⟩
  cases t with
  | nil =>
    rw [hx] at hc
    simp at hc
    subst hc
    exact vd_first h [] hx
  | cons y t =>
    exfalso
    unfold Vd at h
    rw [hx, nextM] at h
    split at h
    · cases h
    · split at h
      · cases h
      · rename_i h1 h2
        split at h
        · cases h
        · simp only [Option.some.injEq, Prod.mk.injEq] at h
          have hn : (leadB x).1 = (y :: t).length + 1 := by have := h.2; simpa using this
          rw [hn, Nat.add_sub_cancel, List.take_length] at h2
          have h3 : (y :: t).all cont = true := by simpa using h2
          have hm : (32 : UInt8) ∈ y :: t := by
            rw [hx] at hc
            rw [List.getLast?_cons_cons] at hc
            exact List.mem_of_getLast? hc
          have := List.all_eq_true.1 h3 32 hm
          revert this
          decide
/-- No blank ahead, none behind. -/
def NB (k : By) : Prop := k.head? ≠ some 32 ∧ k.getLast? ≠ some 32
theorem KeyNF.nb {letters : Bool} {k : By} (h : KeyNF letters k) : NB k := by
  obtain ⟨⟨ds, rfl, h1, h2, h3, h4⟩, hne⟩ := h
  constructor
  · intro q
    cases ds with
    | nil => cases q
    | cons c ds =>
      have hv := (h1 c (by simp)).1
      rw [cat_cons] at q
      cases hc : c.2 with
      | nil => exact hv.ne hc
      | cons x t =>
        rw [hc] at q
        simp at q
        subst q
        have := vd_first hv t hc
        simp [headB, this] at h3
        exact absurd h3 (by decide)
  · intro q
    rcases List.eq_nil_or_concat ds with rfl | ⟨es, c, rfl⟩
    · cases q
    · simp only [List.concat_eq_append] at *
      have hv := (h1 c (by simp)).1
      rw [cat_app, cat_cons, cat_nil, List.append_nil, List.getLast?_append] at q
      have hl : ∃ x, c.2.getLast? = some x := by
        cases hc : c.2 with
        | nil => exact absurd hc hv.ne
        | cons x t => exact ⟨_, List.getLast?_eq_some_getLast (by simp)⟩
      obtain ⟨x, hx⟩ := hl
      rw [hx] at q
      simp at q
      subst q
      have := vd_last hv hx
      rw [lastB_snoc, this] at h4
      exact absurd h4 (by decide)
theorem digs_nb {k : By} (h : digsB k = true) : NB k := by
  simp only [digsB, Bool.and_eq_true] at h
  constructor
  · intro q
    have := List.all_eq_true.1 h.2 32 (List.mem_of_head? q)
    revert this; decide
  · intro q
    have := List.all_eq_true.1 h.2 32 (List.mem_of_getLast? q)
    revert this; decide
theorem trimP_nb {a b : By} (h : NB (a ++ b)) : trimP a = a := by
  cases a with
  | nil => rfl
  | cons x a =>
    unfold trimP preB
    have : ¬ x = 32 := fun e => h.1 (by rw [e]; rfl)
    simp [this]
theorem trimS_nb {a b : By} (h : NB (a ++ b)) : trimS b = b := by
  unfold trimS
  cases hs : sufB b [32] with
  | false => rfl
  | true =>
    exfalso
    have h2 := of_decide_eq_true hs
    apply h.2
    have hl : b.getLast? = some 32 := by
      rw [← List.take_append_drop (b.length - 1) b, show b.drop (b.length - 1) = [32] from h2.2]
      simp
    rw [List.getLast?_append, hl]
    rfl
/-- Two halves of a key. -/
structure Halves (s : Int) (k a b : By) : Prop where
  eq : k = a ++ b
  pa : (pieceM s a).1 = a
  pb : (pieceM s b).1 = b
theorem nodbl_cons {x : Ch} {us : List Ch} (h : NoDbl us) (hx : kindN x.1 ≠ 0) : NoDbl (x :: us) := by
  cases us with
  | nil => trivial
  | cons a l => exact ⟨fun q => hx q.1, h⟩
theorem mark_id {us : List Ch} (h1 : ∀ c ∈ us, OkCh false c) (h2 : NoDbl us) : exactP (cat us) = cat us := by
  have hx : OkCh false ((120, [120]) : Ch) := ⟨by unfold Vd; decide +kernel, by decide, by decide, by decide⟩
  have hk : kindN 120 ≠ 0 := by decide
  have hm : mark (cat us) = cat ((120, [120]) :: (us ++ [(120, [120])])) := by
    have hc : cat ((120, [120]) :: (us ++ [((120, [120]) : Ch)])) = 120 :: (cat us ++ [120]) := by simp
    unfold mark
    rw [← hc]
    refine prepM_id (fun c hc => ?_) ?_ (.inr ⟨by simp [headB, hk], ?_⟩)
    · rcases List.mem_cons.1 hc with rfl | hc
      · exact hx
      · rcases List.mem_append.1 hc with hc | hc
        · exact h1 c hc
        · simp at hc; subst hc; exact hx
    · rw [← List.cons_append]
      exact (nodbl_cons h2 hk).snoc fun q => hk q.2
    · rw [← List.cons_append, lastB_snoc]
      exact decide_eq_false hk
  unfold exactP
  rw [chars_cat us fun c hc => (h1 c hc).1]
  simp only [Option.isSome_some, if_true]
  rw [hm]
  simp [List.drop_append]
theorem halves_words {ds us ws : List Ch} (he : ds = us ++ ws) (h1 : ∀ c ∈ ds, OkCh true c) (h2 : NoDbl ds) : Halves 1 (cat ds) (cat us) (cat ws) := by
  subst he
  obtain ⟨n1, n2⟩ := h2.app
  exact ⟨cat_app _ _, prepM_id (fun c hc => h1 c (by simp [hc])) n1 (.inl rfl), prepM_id (fun c hc => h1 c (by simp [hc])) n2 (.inl rfl)⟩
theorem halves_exact {ds us ws : List Ch} (he : ds = us ++ ws) (h1 : ∀ c ∈ ds, OkCh false c) (h2 : NoDbl ds) : Halves 2 (cat ds) (cat us) (cat ws) := by
  subst he
  obtain ⟨n1, n2⟩ := h2.app
  exact ⟨cat_app _ _, mark_id (fun c hc => h1 c (by simp [hc])) n1, mark_id (fun c hc => h1 c (by simp [hc])) n2⟩
theorem ascii_one {c : Ch} (h : Vd c) (ha : ∀ x ∈ c.2, x.toNat < 128) : c.2.length = 1 := by
  cases hc : c.2 with
  | nil => exact absurd hc h.ne
  | cons x t =>
    have hx := ha x (by rw [hc]; simp)
    unfold Vd at h
    rw [hc, nextM] at h
    split at h
    · cases h
    · split at h
      · cases h
      · split at h
        · cases h
        · simp only [Option.some.injEq, Prod.mk.injEq] at h
          have hl : (leadB x).1 = 1 := by unfold leadB; rw [if_pos hx]
          rw [hl] at h
          rw [hc] at *
          simpa using h.2.symm
theorem ascii_split : ∀ (ds : List Ch) (n : Nat), (∀ c ∈ ds, Vd c) → (∀ x ∈ cat ds, x.toNat < 128) → cat (ds.take n) = (cat ds).take n ∧ cat (ds.drop n) = (cat ds).drop n
  | [], n, _, _ => by simp
  | c :: ds, 0, _, _ => by simp
  | c :: ds, n + 1, hv, ha => by
    have h1 := ascii_one (hv c (by simp)) fun x hx => ha x (by rw [cat_cons]; simp [hx])
    have ih := ascii_split ds n (fun d hd => hv d (by simp [hd])) fun x hx => ha x (by rw [cat_cons]; simp [hx])
    obtain ⟨y, hy⟩ := List.length_eq_one_iff.1 h1
    rw [cat_cons, hy, List.take_succ_cons, List.drop_succ_cons, cat_cons, hy]
    simp only [List.singleton_append, List.take_succ_cons, List.drop_succ_cons]
    exact ⟨by rw [ih.1], ih.2⟩
theorem del_digs {a : By} (h : a.all isDig = true) : a.filter (· != 32) = a := List.filter_eq_self.2 fun x hx => by
  have := List.all_eq_true.1 h x hx
  simp only [bne_iff_ne, ne_eq]
  intro e
  subst e
  revert this; decide
/-- Any halves of a key, where all is ASCII; and nothing and the key. -/
theorem halves_key {s : Int} (hs : s = 1 ∨ s = 2 ∨ s = 7) {l k : By} (h : holdM s l = some k) (n : Nat) (hn : n = 0 ∨ ∀ x ∈ k, x.toNat < 128) : Halves s k (k.take n) (k.drop n) ∧ NB k := by
  rcases hs with rfl | rfl | rfl
  · obtain ⟨nf, _, _⟩ := hold_words h
    refine ⟨?_, nf.nb⟩
    obtain ⟨⟨ds, rfl, h1, h2, _, _⟩, _⟩ := nf
    rcases hn with rfl | ha
    · have := halves_words (ds := ds) (us := []) (ws := ds) rfl h1 h2
      simpa using this
    · obtain ⟨q1, q2⟩ := ascii_split ds n (fun c hc => (h1 c hc).1) ha
      have := halves_words (ds := ds) (us := ds.take n) (ws := ds.drop n) (List.take_append_drop n ds).symm h1 h2
      rwa [q1, q2] at this
  · obtain ⟨nf, _, _⟩ := hold_exact h
    refine ⟨?_, nf.nb⟩
    obtain ⟨⟨ds, rfl, h1, h2, _, _⟩, _⟩ := nf
    rcases hn with rfl | ha
    · have := halves_exact (ds := ds) (us := []) (ws := ds) rfl h1 h2
      simpa using this
    · obtain ⟨q1, q2⟩ := ascii_split ds n (fun c hc => (h1 c hc).1) ha
      have := halves_exact (ds := ds) (us := ds.take n) (ws := ds.drop n) (List.take_append_drop n ds).symm h1 h2
      rwa [q1, q2] at this
  · obtain ⟨_, hd, _, _⟩ := hold_digits h
    refine ⟨⟨(List.take_append_drop n k).symm, ?_, ?_⟩, digs_nb hd⟩
    · simp only [digsB, Bool.and_eq_true] at hd
      exact del_digs (List.all_eq_true.2 fun x hx => List.all_eq_true.1 hd.2 x (List.mem_of_mem_take hx))
    · simp only [digsB, Bool.and_eq_true] at hd
      exact del_digs (List.all_eq_true.2 fun x hx => List.all_eq_true.1 hd.2 x (List.mem_of_mem_drop hx))
theorem preB_app (a b : By) : preB (a ++ b) a = true := by unfold preB; simp
theorem sufB_self (a : By) : sufB a a = true := by unfold sufB; simp
/-- First one half, then the other. -/
theorem finds_halves {s : Int} (hs : s = 1 ∨ s = 2 ∨ s = 7) {l k a b : By} (h : holdM s l = some k) (hh : Halves s k a b) (hn : NB k) : (soughtM s l a b []).1 = true := by
  obtain ⟨he, pa, pb⟩ := hh
  subst he
  rw [sought_is hs h, pa, pb, trimP_nb hn, trimS_nb hn]
  refine ⟨preB_app a b, b, ?_, sufB_self b⟩
  show some ((a ++ b).drop a.length) = _
  simp
theorem finds_none {s : Int} (hs : s = 1 ∨ s = 2 ∨ s = 7) {l k : By} (h : holdM s l = some k) : (soughtM s l [] [] []).1 = true := by
  rw [sought_is hs h, piece_nil hs]
  exact ⟨preB_nil k, k, rfl, suf_nil k⟩
theorem finds_first {s : Int} (hs : s = 1 ∨ s = 2 ∨ s = 7) {l k : By} (h : holdM s l = some k) : (soughtM s l k [] []).1 = true := by
  obtain ⟨hh, hn⟩ := halves_key hs h 0 (.inl rfl)
  have hpk : (pieceM s k).1 = k := by have := hh.pb; simpa using this
  rw [sought_is hs h, piece_nil hs, hpk, trimP_nb (a := k) (b := []) (by simpa using hn)]
  refine ⟨by have := preB_app k []; simpa using this, [], ?_, suf_nil _⟩
  show some (k.drop k.length) = _
  simp
theorem finds_last {s : Int} (hs : s = 1 ∨ s = 2 ∨ s = 7) {l k : By} (h : holdM s l = some k) : (soughtM s l [] k []).1 = true := by
  obtain ⟨hh, hn⟩ := halves_key hs h 0 (.inl rfl)
  have hpk : (pieceM s k).1 = k := by have := hh.pb; simpa using this
  rw [sought_is hs h, piece_nil hs, hpk, trimS_nb (a := []) (b := k) (by simpa using hn)]
  exact ⟨preB_nil k, k, rfl, sufB_self k⟩
theorem finds_between {s : Int} (hs : s = 1 ∨ s = 2 ∨ s = 7) {l k : By} (h : holdM s l = some k) : (soughtM s l [] [] [k]).1 = true := by
  obtain ⟨hh, hn⟩ := halves_key hs h 0 (.inl rfl)
  have hpk : (pieceM s k).1 = k := by have := hh.pb; simpa using this
  rw [sought_is hs h, piece_nil hs]
  refine ⟨preB_nil k, [], ?_, suf_nil _⟩
  show seekM k [(pieceM s k).1] = _
  rw [hpk]
  show (if Lib.index k k < 0 then none else seekM (k.drop ((Lib.index k k).toNat + k.length)) []) = _
  rw [Lib.index_self]
  show some (k.drop (0 + k.length)) = _
  simp
end Go.Pv
