/- A part of the proof: functions of the program, walked, or what operations come to. -/
import Derived.Test.YtnmpinbfddjhmaaPvX1
import Derived.Test.YtnmpinbfddjhmaaPvF5
namespace Go.Pv
/-! ### A key is its own key: plain laws -/
theorem lead_least : ∀ n : Nat, n < 256 → ((leadB (UInt8.ofNat n)).1 = 0) ∨ ((leadB (UInt8.ofNat n)).1 = 1 ∧ (leadB (UInt8.ofNat n)).2.1 < 128 ∧ (leadB (UInt8.ofNat n)).2.2 = 0) ∨ ((leadB (UInt8.ofNat n)).1 = 2 ∧ (leadB (UInt8.ofNat n)).2.2 = 128) ∨ ((leadB (UInt8.ofNat n)).1 = 3 ∧ (leadB (UInt8.ofNat n)).2.2 = 2048) ∨ ((leadB (UInt8.ofNat n)).1 = 4 ∧ (leadB (UInt8.ofNat n)).2.2 = 65536) := by decide +kernel
theorem nextM_width {l : By} {v n : Nat} (h : nextM l = some (v, n)) : (v < 128 → n = 1) ∧ (128 ≤ v → v < 2048 → n = 2) := by
  cases l with
  | nil => cases h
  | cons c t =>
    have hc : UInt8.ofNat c.toNat = c := by simp
    have hl := lead_least c.toNat c.toNat_lt
    rw [hc] at hl
    rw [nextM] at h
    split at h
    · cases h
    · rename_i h1
      split at h
      · cases h
      · split at h
        · cases h
        · rename_i h3
          simp only [Option.some.injEq, Prod.mk.injEq] at h
          obtain ⟨hv, hn⟩ := h
          simp only [badC, Bool.or_eq_true, Bool.and_eq_true, decide_eq_true_eq, not_or] at h3
          rw [hv] at h3
          simp only [not_or] at h1
          rcases hl with hl | hl | hl | hl | hl
          · exact absurd hl h1.1
          · have : v = (leadB c).2.1 := by rw [← hv, hl.1]; rfl
            exact ⟨fun _ => by omega, fun q => by omega⟩
          · exact ⟨fun q => by omega, fun _ _ => by omega⟩
          · exact ⟨fun q => by omega, fun _ q => by omega⟩
          · exact ⟨fun q => by omega, fun _ q => by omega⟩
theorem small_len {letters : Bool} {c : Ch} (hv : Vd c) : (smallC letters c).2.length = c.2.length := by
  have key : ∀ v : Nat, v < 256 → capC v = true → (smallM v []).length = if v < 128 then 1 else 2 := by decide +kernel
  unfold smallC
  cases hl : letters && capC c.1 with
  | false => rfl
  | true =>
    simp only [Bool.and_eq_true] at hl
    have hc : c.1 < 256 := by
      have h := hl.2
      simp only [capC, Bool.or_eq_true, Bool.and_eq_true, decide_eq_true_eq] at h
      rcases h with h | h <;> omega
    have h1 := key c.1 hc hl.2
    have h2 := nextM_width hv
    show (smallM c.1 c.2).length = _
    rw [smallM_cap hl.2 c.2 [], h1]
    split
    · rename_i q; exact (h2.1 q).symm
    · rename_i q; exact (h2.2 (by omega) (by omega)).symm
theorem run_len (ends letters : Bool) : ∀ (cs : List Ch) (st : Bool × List Ch), (∀ c ∈ cs, Vd c) → (cat (cs.foldl (stepL ends letters) st).2).length + (if (cs.foldl (stepL ends letters) st).1 then 1 else 0) ≤ (cat st.2).length + (if st.1 then 1 else 0) + (cat cs).length
  | [], st, _ => Nat.le_refl _
  | c :: cs, st, hv => by
    have hc := hv c (by simp)
    have hpos : 0 < c.2.length := List.length_pos_iff.2 hc.ne
    refine Nat.le_trans (run_len ends letters cs (stepL ends letters st c) fun d hd => hv d (by simp [hd])) ?_
    have hsl := small_len (letters := letters) hc
    rw [cat_cons, List.length_append]
    unfold stepL
    split
    · omega
    · split
      · simp only [if_true]
        split <;> omega
      · simp only [cat_app, cat_cons, cat_nil, List.append_nil, List.length_append, hsl, Bool.false_eq_true, if_false]
        split
        · rename_i q
          simp only [Bool.and_eq_true] at q
          rw [q.1]
          simp [bl]
          omega
        · simp
          omega
theorem prepL_len (letters : Bool) (cs : List Ch) (hv : ∀ c ∈ cs, Vd c) : (cat (prepL false letters cs)).length ≤ (cat cs).length := by
  have h := run_len false letters cs (false, []) hv
  unfold prepL runL
  simp only [Bool.and_false, Bool.false_eq_true, if_false, List.append_nil]
  simp only [cat_nil, List.length_nil, Bool.false_eq_true, if_false] at h
  omega
/-- What a key of words looks like. -/
structure KeyNF (letters : Bool) (k : By) : Prop where
  ex : ∃ ds : List Ch, k = cat ds ∧ (∀ c ∈ ds, OkCh letters c) ∧ NoDbl ds ∧ headB ds = false ∧ lastB ds = false
  ne : k ≠ []
theorem KeyNF.prep {letters : Bool} {k : By} (h : KeyNF letters k) (ends : Bool) : prepM ends letters k = k := by
  obtain ⟨⟨ds, rfl, h1, h2, h3, h4⟩, _⟩ := h
  exact prepM_id h1 h2 (.inr ⟨h3, h4⟩)
theorem KeyNF.chars {letters : Bool} {k : By} (h : KeyNF letters k) : (chars k).isSome = true := by
  obtain ⟨⟨ds, rfl, h1, _⟩, _⟩ := h
  rw [chars_cat ds fun c hc => (h1 c hc).1]; rfl
theorem key_nf {letters : Bool} {l : By} (h : ((chars l).isSome && !(prepM false letters l).isEmpty) = true) : KeyNF letters (prepM false letters l) ∧ (prepM false letters l).length ≤ l.length := by
  simp only [Bool.and_eq_true, Bool.not_eq_true', List.isEmpty_eq_false_iff] at h
  obtain ⟨cs, hcs⟩ := Option.isSome_iff_exists.1 h.1
  obtain ⟨hv, hcat⟩ := chars_vd _ _ _ (Nat.le_refl _) hcs
  have hp := prepM_of (ends := false) (letters := letters) hcs
  obtain ⟨n1, n2, n3⟩ := prepL_nf false letters cs hv
  refine ⟨⟨⟨prepL false letters cs, hp, n1, n2, (n3 rfl).1, (n3 rfl).2⟩, h.2⟩, ?_⟩
  rw [hp]
  refine Nat.le_trans (prepL_len letters cs hv) ?_
  rw [hcat]
  exact Nat.le_refl _
theorem delB_idem (c : UInt8) (l : By) : delB c (delB c l) = delB c l := by unfold delB; rw [List.filter_filter]; simp
theorem hold_words {l k : By} (h : holdM 1 l = some k) : KeyNF true k ∧ k.length ≤ 512 ∧ holdM 1 k = some k := by
  obtain ⟨_, h1, h2, h3⟩ := holdM_some h
  have h2' : ((chars l).isSome && !(prepM false true l).isEmpty) = true := h2
  have h3' : prepM false true l = k := h3
  obtain ⟨n1, n2⟩ := key_nf h2'
  rw [h3'] at n1 n2
  refine ⟨n1, by omega, ?_⟩
  have hk : (keyM 1 k) = (k, true) := by
    show (prepM false true k, (chars k).isSome && !(prepM false true k).isEmpty) = _
    rw [n1.prep, n1.chars]
    cases hk : k with
    | nil => exact absurd hk n1.ne
    | cons a l => rfl
  unfold holdM
  rw [hk, if_pos ⟨by decide, by omega, rfl⟩]
theorem hold_exact {l k : By} (h : holdM 2 l = some k) : KeyNF false k ∧ k.length ≤ 512 ∧ holdM 2 k = some k := by
  obtain ⟨_, h1, h2, h3⟩ := holdM_some h
  have h2' : ((chars l).isSome && !(prepM false false l).isEmpty) = true := h2
  have h3' : prepM false false l = k := h3
  obtain ⟨n1, n2⟩ := key_nf h2'
  rw [h3'] at n1 n2
  refine ⟨n1, by omega, ?_⟩
  have hk : (keyM 2 k) = (k, true) := by
    show (prepM false false k, (chars k).isSome && !(prepM false false k).isEmpty) = _
    rw [n1.prep, n1.chars]
    cases hk : k with
    | nil => exact absurd hk n1.ne
    | cons a l => rfl
  unfold holdM
  rw [hk, if_pos ⟨by decide, by omega, rfl⟩]
theorem hold_digits {l k : By} (h : holdM 7 l = some k) : k = delB 32 l ∧ digsB k = true ∧ k.length ≤ 512 ∧ holdM 7 k = some k := by
  obtain ⟨_, h1, h2, h3⟩ := holdM_some h
  have h2' : (numericM l).isSome = true := h2
  have h3' : (numericM l).getD [] = k := h3
  unfold numericM at h2' h3'
  split at h2'
  · rename_i hd
    rw [if_pos hd] at h3'
    have hk : delB 32 l = k := h3'
    have hl := delB_len 32 l
    rw [hk] at hd hl
    have hdk : delB 32 k = k := by rw [← hk]; exact delB_idem 32 l
    refine ⟨hk.symm, hd, by omega, ?_⟩
    have hkk : keyM 7 k = (k, true) := by
      show ((numericM k).getD [], (numericM k).isSome) = _
      unfold numericM
      rw [hdk, if_pos hd]; rfl
    unfold holdM
    rw [hkk, if_pos ⟨by decide, by omega, rfl⟩]
  · cases h2'
theorem hold_again {s : Int} (hs : s = 1 ∨ s = 2 ∨ s = 7) {l k : By} (h : holdM s l = some k) : holdM s k = some k ∧ k.length ≤ 512 := by
  rcases hs with rfl | rfl | rfl
  · exact ⟨(hold_words h).2.2, (hold_words h).2.1⟩
  · exact ⟨(hold_exact h).2.2, (hold_exact h).2.1⟩
  · exact ⟨(hold_digits h).2.2.2, (hold_digits h).2.2.1⟩
theorem sought_ok {s : Int} {v f la : By} {bs : List By} (h : (soughtM s v f la bs).2 = true) : (s = 1 ∨ s = 2 ∨ s = 7) ∧ ∃ k, holdM s v = some k := by
  unfold soughtM at h
  split at h
  · cases h
  · rename_i k hk
    refine ⟨?_, k, hk⟩
    by_cases hp : (pieceM s f).2 = false
    · rw [if_pos hp] at h; cases h
    · unfold pieceM at hp
      by_cases h1 : s = 1
      · exact .inl h1
      · by_cases h2 : s = 2
        · exact .inr (.inl h2)
        · by_cases h7 : s = 7
          · exact .inr (.inr h7)
          · rw [if_neg h1, if_neg h2, if_neg h7] at hp; exact absurd rfl hp
/-- The same is sought of a key. -/
theorem sought_key {s : Int} {v f la : By} {bs : List By} (h : (soughtM s v f la bs).2 = true) : soughtM s ((holdM s v).getD []) f la bs = soughtM s v f la bs := by
  obtain ⟨hs, k, hk⟩ := sought_ok h
  have h2 := (hold_again hs hk).1
  unfold soughtM
  rw [hk]
  simp only [Option.getD_some]
  rw [h2]
/-! ### With fewer parts -/
theorem occ_iff (s sub : By) (i : Nat) : Lib.occAt s sub i = true ↔ sub <+: s.drop i := by unfold Lib.occAt; rw [List.isPrefixOf_iff_prefix]
theorem index_more (r r' b : By) (n : Nat) (hr : r = r'.drop n) (hn : n ≤ r'.length) (h : ¬ Lib.index r b < 0) : ¬ Lib.index r' b < 0 ∧ (Lib.index r' b).toNat ≤ n + (Lib.index r b).toNat := by
  rcases Lib.index_spec r b with ⟨h1, _⟩ | ⟨i, h1, h2, h3, _⟩
  · rw [h1] at h; exact absurd (by decide) h
  · have ho : Lib.occAt r' b (n + i) = true := by
      rw [occ_iff] at h3 ⊢
      rw [hr, List.drop_drop] at h3
      exact h3
    rcases Lib.index_spec r' b with ⟨_, g2⟩ | ⟨j, g1, g2, g3, g4⟩
    · have hl : r.length = r'.length - n := by rw [hr, List.length_drop]
      have := g2 (n + i) (by omega)
      rw [ho] at this; cases this
    · rw [g1, h1]
      refine ⟨by omega, ?_⟩
      simp only [Int.toNat_natCast]
      by_cases q : j ≤ n + i
      · exact q
      · have := g4 (n + i) (by omega)
        rw [ho] at this; cases this
theorem seek_more : ∀ (bs : List By) (r r' : By) (n : Nat) (t : By), r = r'.drop n → n ≤ r'.length → seekM r bs = some t → ∃ t' m, seekM r' bs = some t' ∧ t = t'.drop m ∧ m ≤ t'.length
  | [], r, r', n, t, hr, hn, h => by cases h; exact ⟨r', n, rfl, hr, hn⟩
  | b :: bs, r, r', n, t, hr, hn, h => by
    unfold seekM at h
    by_cases hi : Lib.index r b < 0
    · rw [if_pos hi] at h; cases h
    · rw [if_neg hi] at h
      obtain ⟨k1, k2⟩ := index_more r r' b n hr hn hi
      have hroom := Lib.index_room r b (by omega)
      have hroom' := Lib.index_room r' b (by omega)
      have hl : r.length = r'.length - n := by rw [hr, List.length_drop]
      unfold seekM
      rw [if_neg k1]
      refine seek_more bs (r.drop ((Lib.index r b).toNat + b.length)) (r'.drop ((Lib.index r' b).toNat + b.length)) (n + (Lib.index r b).toNat - (Lib.index r' b).toNat) t ?_ ?_ h
      · have e0 : r.drop ((Lib.index r b).toNat + b.length) = r'.drop (n + ((Lib.index r b).toNat + b.length)) := by
          have e9 : (r'.drop n).drop ((Lib.index r b).toNat + b.length) = r'.drop (n + ((Lib.index r b).toNat + b.length)) := List.drop_drop ..
          rw [← e9, ← hr]
        rw [e0, List.drop_drop]
        congr 1
        omega
      · have hd := List.length_drop (l := r') (i := (Lib.index r' b).toNat + b.length)
        rw [hd]
        have e1 : (Lib.index r b).toNat + b.length ≤ r.length := by omega
        have e2 : (Lib.index r' b).toNat + b.length ≤ r'.length := by omega
        omega
theorem seek_less : ∀ (bs : List By) (b : By) (r t : By), seekM r (bs ++ [b]) = some t → ∃ u m, seekM r bs = some u ∧ t = u.drop m ∧ m ≤ u.length
  | [], b, r, t, h => by
    have h : (if Lib.index r b < 0 then none else seekM (r.drop ((Lib.index r b).toNat + b.length)) []) = some t := h
    by_cases hi : Lib.index r b < 0
    · rw [if_pos hi] at h; cases h
    · rw [if_neg hi] at h
      have hroom := Lib.index_room r b (by omega)
      cases h
      exact ⟨r, _, rfl, rfl, by omega⟩
  | a :: bs, b, r, t, h => by
    rw [List.cons_append] at h
    unfold seekM at h ⊢
    by_cases hi : Lib.index r a < 0
    · rw [if_pos hi] at h; cases h
    · rw [if_neg hi] at h ⊢
      exact seek_less bs b _ t h
theorem suf_more {t t' p : By} {m : Nat} (ht : t = t'.drop m) (hm : m ≤ t'.length) (h : sufB t p = true) : sufB t' p = true := by
  have h := of_decide_eq_true h
  have hl : t.length = t'.length - m := by rw [ht, List.length_drop]
  refine decide_eq_true ⟨by omega, ?_⟩
  have h2 := h.2
  rw [hl, ht, List.drop_drop] at h2
  rw [show t'.length - p.length = m + (t'.length - m - p.length) by omega]
  exact h2
theorem suf_nil (t : By) : sufB t [] = true := by unfold sufB; simp
theorem piece_nil {s : Int} (hs : s = 1 ∨ s = 2 ∨ s = 7) : pieceM s [] = ([], true) := by
  rcases hs with rfl | rfl | rfl
  · decide +kernel
  · decide +kernel
  · rfl
theorem preB_nil (k : By) : preB k [] = true := by simp [preB]
theorem sought_is {s : Int} {v f la : By} {bs : List By} {k : By} (hs : s = 1 ∨ s = 2 ∨ s = 7) (hk : holdM s v = some k) : (soughtM s v f la bs).1 = true ↔ preB k (trimP (pieceM s f).1) = true ∧ ∃ r, seekM (k.drop (trimP (pieceM s f).1).length) (bs.map fun b => (pieceM s b).1) = some r ∧ sufB r (trimS (pieceM s la).1) = true := by
  have hp : ¬ (pieceM s f).2 = false := by rcases hs with rfl | rfl | rfl <;> exact fun h => by cases h
  unfold soughtM
  rw [hk]
  simp only
  rw [if_neg hp]
  by_cases h1 : preB k (trimP (pieceM s f).1) = false
  · rw [if_pos h1]; simp [h1]
  · rw [if_neg h1]
    have h2 : preB k (trimP (pieceM s f).1) = true := by simpa using h1
    rw [h2]
    cases seekM (k.drop (trimP (pieceM s f).1).length) (bs.map fun b => (pieceM s b).1) with
    | none => simp
    | some r => simp
theorem preB_le {k p : By} (h : preB k p = true) : p.length ≤ k.length := preB_len h
theorem fewer_first {s : Int} {v f la : By} {bs : List By} (h2 : (soughtM s v f la bs).2 = true) (h : (soughtM s v f la bs).1 = true) : (soughtM s v [] la bs).1 = true := by
  obtain ⟨hs, k, hk⟩ := sought_ok h2
  rw [sought_is hs hk] at h ⊢
  obtain ⟨h1, r, h3, h4⟩ := h
  rw [piece_nil hs, show trimP ([] : By) = [] from rfl]
  refine ⟨preB_nil k, ?_⟩
  obtain ⟨t', m, q1, q2, q3⟩ := seek_more _ _ k _ r rfl (preB_le h1) h3
  exact ⟨t', by simpa using q1, suf_more q2 q3 h4⟩
theorem fewer_last {s : Int} {v f la : By} {bs : List By} (h2 : (soughtM s v f la bs).2 = true) (h : (soughtM s v f la bs).1 = true) : (soughtM s v f [] bs).1 = true := by
  obtain ⟨hs, k, hk⟩ := sought_ok h2
  rw [sought_is hs hk] at h ⊢
  obtain ⟨h1, r, h3, h4⟩ := h
  rw [piece_nil hs, show trimS ([] : By) = [] from rfl]
  exact ⟨h1, r, h3, suf_nil r⟩
theorem fewer_between {s : Int} {v f la b : By} {bs : List By} (h2 : (soughtM s v f la (bs ++ [b])).2 = true) (h : (soughtM s v f la (bs ++ [b])).1 = true) : (soughtM s v f la bs).1 = true := by
  obtain ⟨hs, k, hk⟩ := sought_ok h2
  rw [sought_is hs hk] at h ⊢
  obtain ⟨h1, r, h3, h4⟩ := h
  rw [List.map_append] at h3
  obtain ⟨u, m, q1, q2, q3⟩ := seek_less _ _ _ _ h3
  exact ⟨h1, u, q1, suf_more q2 q3 h4⟩
theorem sought_same {s : Int} {v f la f' la' : By} {bs bs' : List By} (h : (soughtM s v f la bs).2 = true) : (soughtM s v f' la' bs').2 = true := by
  obtain ⟨hs, k, hk⟩ := sought_ok h
  have hp : ∀ x, ¬ (pieceM s x).2 = false := fun x => by rcases hs with rfl | rfl | rfl <;> exact fun h => by cases h
  unfold soughtM
  rw [hk]
  simp only
  rw [if_neg (hp f')]
  split
  · rfl
  · split <;> rfl
end Go.Pv
