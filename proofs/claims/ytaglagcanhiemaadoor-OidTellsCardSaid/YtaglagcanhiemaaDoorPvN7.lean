/- A part of the proof: functions of the program, walked, or what operations come to. -/
import Derived.Test.YtaglagcanhiemaaDoorPvN6
import Derived.Lib.Join
/-! ### The identifier that bytes tell: plain laws -/
namespace Go.Pv
theorem join_joinB (c : UInt8) : ∀ ps : List By, Lib.join ps [c] = joinB c ps
  | [] => rfl
  | [p] => by rw [Lib.join_one]; rfl
  | p :: q :: ps => by
    rw [joinB_cons _ _ _ (by simp), ← join_joinB c (q :: ps), Lib.join_cons, Lib.join_cons, Lib.joinTail]
    simp [Lib.joinTail]
def textM (A : List Nat) : By := joinB 46 (A.map digits)
/-- One byte more: the numbers that are told, and what is told of the next one. -/
def rdNext (A : List Nat) (n : Nat) : List Nat := if A = [] then [min (n / 40) 2, n - min (n / 40) 2 * 40] else A ++ [n]
def rdStep (A : List Nat) (n : Nat) (c : UInt8) : Option (List Nat × Nat) :=
  if 10000000079 < n * 128 + c.toNat % 128 ∨ 16 < A.length then none else if c.toNat < 128 then some (rdNext A (n * 128 + c.toNat % 128), 0) else some (A, n * 128 + c.toNat % 128)
def rdLoop : List Nat → Nat → By → Option (List Nat × Nat)
  | A, n, [] => some (A, n)
  | A, n, c :: bs => match rdStep A n c with
    | some (A', n') => rdLoop A' n' bs
    | none => none
theorem rdLoop_app : ∀ (x y : By) (A : List Nat) (n : Nat), rdLoop A n (x ++ y) = match rdLoop A n x with
    | some (A', n') => rdLoop A' n' y
    | none => none
  | [], y, A, n => rfl
  | c :: x, y, A, n => by
    simp only [List.cons_append, rdLoop]
    cases rdStep A n c with
    | none => rfl
    | some q => exact rdLoop_app x y q.1 q.2
theorem rd_hi (A : List Nat) (hA : A.length ≤ 16) : ∀ q, q ≤ 10000000079 → rdLoop A 0 (hiB q) = some (A, q) := by
  intro q
  induction q using Nat.strongRecOn with
  | _ q ih =>
    intro hq
    by_cases h : q = 0
    · subst h; rw [hiB_zero]; rfl
    · rw [hiB_pos q h, rdLoop_app, ih (q / 128) (by omega) (by omega)]
      have h1 : (UInt8.ofNat (128 + q % 128)).toNat = 128 + q % 128 := by simp [UInt8.toNat_ofNat]; omega
      simp only [rdLoop, rdStep, h1]
      rw [if_neg (by omega), if_neg (by omega), show q / 128 * 128 + (128 + q % 128) % 128 = q by omega]
theorem rd_sev (A : List Nat) (hA : A.length ≤ 16) (n : Nat) (hn : n ≤ 10000000079) : rdLoop A 0 (sev n) = some (rdNext A n, 0) := by
  rw [sev, rdLoop_app, rd_hi A hA (n / 128) (by omega)]
  have h1 : (UInt8.ofNat (n % 128)).toNat = n % 128 := by simp [UInt8.toNat_ofNat]; omega
  simp only [rdLoop, rdStep, h1]
  rw [if_neg (by omega), if_pos (by omega), show n / 128 * 128 + n % 128 % 128 = n by omega]
theorem rd_more : ∀ (r A : List Nat), A ≠ [] → A.length + r.length ≤ 17 → (∀ n ∈ r, n ≤ 10000000079) → rdLoop A 0 (r.flatMap sev) = some (A ++ r, 0)
  | [], A, _, _, _ => by simp [rdLoop]
  | n :: r, A, h0, h1, h2 => by
    simp only [List.length_cons] at h1
    rw [List.flatMap_cons, rdLoop_app, rd_sev A (by omega) n (h2 n (by simp))]
    simp only [rdNext, if_neg h0]
    rw [rd_more r (A ++ [n]) (by simp) (by simp; omega) (fun m hm => h2 m (by simp [hm]))]
    simp
theorem arcs_valid {l : By} {L : List Nat} (h : arcsM l = some L) : ∃ a b r, L = a :: b :: r ∧ r.length ≤ 14 ∧ a ≤ 2 ∧ (a < 2 → b < 40) ∧ b < 10000000000 ∧ (∀ n ∈ r, n < 10000000000) ∧ textM L = l := by
  unfold arcsM at h
  split at h
  · rename_i hall
    split at h
    · rename_i hok
      cases h
      have hlt : ∀ n ∈ (splitB 46 l).map digVal, n < 10000000000 := fun n hn => by
        obtain ⟨p, hp, rfl⟩ := List.mem_map.1 hn
        exact (okP_read (List.all_eq_true.1 hall p hp)).2.2
      have ht : textM ((splitB 46 l).map digVal) = l := by
        have e : List.map (digits ∘ digVal) (splitB 46 l) = splitB 46 l := (List.map_congr_left (g := id) (fun p hp => digits_read (okP_read (List.all_eq_true.1 hall p hp)).1)).trans (List.map_id _)
        rw [textM, List.map_map, e, join_split]
      unfold arcOk at hok
      split at hok
      · rename_i a b r e
        rw [e] at hlt ht ⊢
        simp only [Bool.and_eq_true, Bool.or_eq_true, decide_eq_true_eq] at hok
        exact ⟨a, b, r, rfl, hok.1.1, hok.1.2, fun q => by omega, hlt b (by simp), fun n hn => hlt n (by simp [hn]), ht⟩
      · cases hok
    · cases h
  · cases h
theorem rd_enc {l : By} {L : List Nat} (h : arcsM l = some L) : rdLoop [] 0 (enc L) = some (L, 0) := by
  obtain ⟨a, b, r, rfl, h1, h2, h3, h4, h5, _⟩ := arcs_valid h
  have hm : min ((a * 40 + b) / 40) 2 = a := by omega
  rw [enc, rdLoop_app, rd_sev [] (by simp) _ (by omega), rdNext, if_pos rfl, hm, show a * 40 + b - a * 40 = b by omega]
  simp only
  rw [rd_more r [a, b] (by simp) (by simp; omega) (fun n hn => by have := h5 n hn; omega)]
  rfl
def readM (bs : By) : Option By := match rdLoop [] 0 bs with
  | some (A, _) => if putM (textM A) = some bs then some (textM A) else none
  | none => none
theorem readM_iff (bs s : By) : readM bs = some s ↔ putM s = some bs := by
  constructor
  · intro h
    unfold readM at h
    split at h
    · split at h
      · cases h; assumption
      · cases h
    · cases h
  · intro h
    unfold putM at h
    obtain ⟨L, hL, rfl⟩ := Option.map_eq_some_iff.1 h
    obtain ⟨_, _, _, _, _, _, _, _, _, ht⟩ := arcs_valid hL
    unfold readM
    rw [rd_enc hL]
    simp only [ht]
    rw [if_pos (by rw [putM, hL]; rfl)]
/-! The document's own road. -/
def rrStep (s : By) (n : Nat) (c : UInt8) : By × Nat :=
  if c.toNat < 128 then (if s = [] then digits (min ((n * 128 + c.toNat % 128) / 40) 2) ++ 46 :: digits (n * 128 + c.toNat % 128 - min ((n * 128 + c.toNat % 128) / 40) 2 * 40) else s ++ 46 :: digits (n * 128 + c.toNat % 128), 0) else (s, n * 128 + c.toNat % 128)
def rrLoop : By → Nat → By → Option By
  | s, _, [] => some s
  | s, n, c :: bs => if 200 ≤ s.length then some s else if 100000000000 < n then none else rrLoop (rrStep s n c).1 (rrStep s n c).2 bs
def rreadM (bs : By) : Option By := match rrLoop [] 0 bs with
  | some s => if putM s = some bs then some s else none
  | none => none
theorem joinB_snoc (c : UInt8) : ∀ (ps : List By) (p : By), ps ≠ [] → joinB c (ps ++ [p]) = joinB c ps ++ c :: p
  | [], p, h => absurd rfl h
  | [q], p, _ => rfl
  | q :: q2 :: ps, p, _ => by
    have ih := joinB_snoc c (q2 :: ps) p (by simp)
    show joinB c (q :: (q2 :: ps ++ [p])) = _
    rw [joinB_cons c q _ (by simp), ih, joinB_cons c q (q2 :: ps) (by simp)]; simp
theorem text_next (A : List Nat) (n : Nat) : textM (rdNext A n) = if A = [] then digits (min (n / 40) 2) ++ 46 :: digits (n - min (n / 40) 2 * 40) else textM A ++ 46 :: digits n := by
  unfold rdNext
  split
  · rfl
  · rename_i h
    rw [textM, List.map_append, List.map_singleton, joinB_snoc _ _ _ (by simpa using h)]; rfl
theorem text_nil (A : List Nat) : textM A = [] ↔ A = [] := by
  cases A with
  | nil => simp [textM, joinB]
  | cons a A =>
    simp only [reduceCtorEq, iff_false]
    intro h
    rw [textM, List.map_cons] at h
    cases A with
    | nil => exact digits_ne a h
    | cons b A => rw [List.map_cons, joinB_cons _ _ _ (by simp)] at h; simp at h
theorem text_len (A : List Nat) (h : ∀ n ∈ A, n < 100000000000) : (textM A).length ≤ A.length * 12 := by
  have key : ∀ ps : List By, (∀ p ∈ ps, p.length ≤ 11) → (joinB 46 ps).length ≤ ps.length * 12 := by
    intro ps
    induction ps with
    | nil => intro _; simp [joinB]
    | cons p ps ih =>
      intro hp
      cases ps with
      | nil => have := hp p (by simp); simp [joinB]; omega
      | cons q ps =>
        have h1 := hp p (by simp)
        have h2 := ih (fun x hx => hp x (by simp [hx]))
        rw [joinB_cons _ _ _ (by simp), List.length_append, List.length_cons]
        simp only [List.length_cons] at *; omega
  have := key (A.map digits) (fun p hp => by
    obtain ⟨n, hn, rfl⟩ := List.mem_map.1 hp
    exact digits_len 10 n (h n hn))
  rwa [List.length_map] at this
/-- Where the program's road comes through with few numbers, the document's does so. -/
theorem rr_follow : ∀ (bs : By) (A : List Nat) (n : Nat) (A' : List Nat) (n' : Nat), rdLoop A n bs = some (A', n') → A'.length ≤ 16 → n ≤ 10000000079 → (∀ m ∈ A, m < 100000000000) → rrLoop (textM A) n bs = some (textM A')
  | [], A, n, A', n', h, _, _, _ => by simp only [rdLoop, Option.some.injEq, Prod.mk.injEq] at h; rw [rrLoop, h.1]
  | c :: bs, A, n, A', n', h, hl, hn, hA => by
    have hlt := c.toNat_lt
    simp only [rdLoop] at h
    have hmono : ∀ (bs : By) (A : List Nat) (n : Nat) (A' : List Nat) (n' : Nat), rdLoop A n bs = some (A', n') → A.length ≤ A'.length := by
      intro bs
      induction bs with
      | nil => intro A n A' n' h; simp only [rdLoop, Option.some.injEq, Prod.mk.injEq] at h; rw [h.1]; exact Nat.le_refl _
      | cons c bs ih =>
        intro A n A' n' h
        simp only [rdLoop, rdStep] at h
        split at h
        · rename_i q A2 n2 e
          have h3 := ih A2 n2 A' n' h
          split at e
          · cases e
          · split at e
            · cases e
              have : A.length ≤ (rdNext A (n * 128 + c.toNat % 128)).length := by
                unfold rdNext; split
                · rename_i q; subst q; simp
                · simp
              omega
            · cases e; exact h3
        · cases h
    have hAl : A.length ≤ 16 := by
      have := hmono (c :: bs) A n A' n' (by simpa only [rdLoop] using h)
      omega
    have hsl := text_len A hA
    cases e : rdStep A n c with
    | none => rw [e] at h; cases h
    | some q =>
      rw [e] at h
      simp only at h
      unfold rdStep at e
      split at e
      · cases e
      · rename_i hq
        have hbig : ¬ 100000000000 < n := by omega
        rw [rrLoop, if_neg (by omega), if_neg hbig, rrStep]
        split at e
        · rename_i hc
          cases e
          rw [if_pos hc]
          have hn2 : ∀ m ∈ rdNext A (n * 128 + c.toNat % 128), m < 100000000000 := by
            intro m hm
            unfold rdNext at hm
            split at hm
            · simp only [List.mem_cons, List.mem_nil_iff, or_false] at hm
              rcases hm with rfl | rfl <;> omega
            · rcases List.mem_append.1 hm with hm | hm
              · exact hA m hm
              · simp only [List.mem_cons, List.mem_nil_iff, or_false] at hm; omega
          have := rr_follow bs _ _ A' n' h hl (by omega) hn2
          rw [text_next] at this
          by_cases hA0 : A = []
          · simp only [hA0, if_true] at this ⊢
            simpa [textM, joinB] using this
          · have : ¬ textM A = [] := fun q => hA0 ((text_nil A).1 q)
            simp_all
        · rename_i hc
          cases e
          rw [if_neg hc]
          exact rr_follow bs A _ A' n' h hl (by omega) hA
theorem rreadM_eq (bs : By) : rreadM bs = readM bs := by
  have h1 : ∀ s, rreadM bs = some s → putM s = some bs := by
    intro s h
    unfold rreadM at h
    split at h
    · split at h
      · cases h; assumption
      · cases h
    · cases h
  have h2 : ∀ s, putM s = some bs → rreadM bs = some s := by
    intro s h
    have h' := h
    unfold putM at h
    obtain ⟨L, hL, rfl⟩ := Option.map_eq_some_iff.1 h
    obtain ⟨a, b, r, hLe, hr, _, _, _, _, ht⟩ := arcs_valid hL
    have := rr_follow (enc L) [] 0 L 0 (rd_enc hL) (by rw [hLe]; simp; omega) (by omega) (by simp)
    rw [ht] at this
    have t0 : textM [] = [] := rfl
    rw [t0] at this
    unfold rreadM
    rw [this]
    simp only
    rw [if_pos h']
  cases hr : rreadM bs with
  | some s => exact ((readM_iff bs s).2 (h1 s hr)).symm
  | none =>
    cases hm : readM bs with
    | none => rfl
    | some s => have := h2 s ((readM_iff bs s).1 hm); rw [hr] at this; cases this
end Go.Pv
