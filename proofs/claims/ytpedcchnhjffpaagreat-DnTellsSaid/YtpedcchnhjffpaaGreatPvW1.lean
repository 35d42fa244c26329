/- A part of the proof: functions of the program, walked, or what operations come to. -/
import Derived.Test.YtpedcchnhjffpaaGreatPvR3
import Derived.Test.YtpedcchnhjffpaaGreatPvV1
import Derived.Test.YtpedcchnhjffpaaGreatPvTwo
import Derived.Test.YtpedcchnhjffpaaGreatPvP1
namespace Go.Pv
/-! ### Bytes in order: plain laws -/
theorem u8lt (a b : UInt8) : (a < b) = (a.toNat < b.toNat) := propext UInt8.lt_iff_toNat_lt
theorem u8ext {a b : UInt8} (h : a.toNat = b.toNat) : a = b := UInt8.toNat_inj.1 h
theorem cmpL_cons (x y : UInt8) (a b : By) : cmpL (x :: a) (y :: b) = if x.toNat < y.toNat then -1 else if y.toNat < x.toNat then 1 else cmpL a b := by
  show (if x < y then _ else if y < x then _ else _) = _
  simp only [u8lt]
  rfl
theorem less_cons (x y : UInt8) (a b : By) : Op.bytesLess (x :: a) (y :: b) = (decide (x.toNat < y.toNat) || (x == y && Op.bytesLess a b)) := by
  show (decide (x < y) || _) = _
  simp only [u8lt]
theorem cmpL_anti : ∀ a b : By, cmpL b a = -cmpL a b
  | [], [] => rfl
  | [], _ :: _ => rfl
  | _ :: _, [] => rfl
  | x :: a, y :: b => by
    have ih := cmpL_anti a b
    simp only [cmpL_cons]
    by_cases h1 : x.toNat < y.toNat
    · rw [if_neg (by omega), if_pos h1, if_pos h1]; rfl
    · by_cases h2 : y.toNat < x.toNat
      · rw [if_pos h2, if_neg h1, if_pos h2]
      · rw [if_neg h2, if_neg h1, if_neg h1, if_neg h2]; exact ih
theorem cmpL_eq : ∀ a b : By, cmpL a b = 0 ↔ a = b
  | [], [] => by simp [cmpL, Lib.compareBytes]
  | [], _ :: _ => by simp [cmpL, Lib.compareBytes]
  | _ :: _, [] => by simp [cmpL, Lib.compareBytes]
  | x :: a, y :: b => by
    have ih := cmpL_eq a b
    simp only [cmpL_cons]
    by_cases h1 : x.toNat < y.toNat
    · rw [if_pos h1]; constructor
      · intro h; cases h
      · intro h; cases h; omega
    · by_cases h2 : y.toNat < x.toNat
      · rw [if_neg h1, if_pos h2]; constructor
        · intro h; cases h
        · intro h; cases h; omega
      · rw [if_neg h1, if_neg h2, ih]
        have : x = y := u8ext (by omega)
        subst this
        simp
theorem cmpL_bound : ∀ a b : By, -1 ≤ cmpL a b ∧ cmpL a b ≤ 1
  | [], [] => by simp [cmpL, Lib.compareBytes]
  | [], _ :: _ => by simp [cmpL, Lib.compareBytes]
  | _ :: _, [] => by simp [cmpL, Lib.compareBytes]
  | x :: a, y :: b => by
    have ih := cmpL_bound a b
    rw [cmpL_cons]
    split
    · omega
    · split
      · omega
      · exact ih
theorem cmpL_tr : ∀ a b c : By, cmpL a b ≤ 0 → cmpL b c ≤ 0 → cmpL a c ≤ 0
  | [], _, [], _, _ => by simp [cmpL, Lib.compareBytes]
  | [], _, _ :: _, _, _ => by simp [cmpL, Lib.compareBytes]
  | _ :: _, [], _, h, _ => by simp [cmpL, Lib.compareBytes] at h
  | _ :: _, _ :: _, [], _, h => by simp [cmpL, Lib.compareBytes] at h
  | x :: a, y :: b, z :: c, h1, h2 => by
    have ih := cmpL_tr a b c
    simp only [cmpL_cons] at *
    by_cases k1 : x.toNat < y.toNat
    · by_cases k2 : y.toNat < z.toNat
      · rw [if_pos (by omega)]; decide
      · rw [if_neg k2] at h2
        by_cases k3 : z.toNat < y.toNat
        · rw [if_pos k3] at h2; simp at h2
        · rw [if_pos (by omega)]; decide
    · rw [if_neg k1] at h1
      by_cases k3 : y.toNat < x.toNat
      · rw [if_pos k3] at h1; simp at h1
      · rw [if_neg k3] at h1
        by_cases k2 : y.toNat < z.toNat
        · rw [if_pos (by omega)]; decide
        · rw [if_neg k2] at h2
          by_cases k4 : z.toNat < y.toNat
          · rw [if_pos k4] at h2; simp at h2
          · rw [if_neg k4] at h2
            rw [if_neg (by omega), if_neg (by omega)]
            exact ih h1 h2
theorem less_cmp : ∀ a b : By, Op.bytesLess a b = decide (cmpL a b < 0)
  | [], [] => rfl
  | [], _ :: _ => rfl
  | _ :: _, [] => rfl
  | x :: a, y :: b => by
    have ih := less_cmp a b
    rw [cmpL_cons, less_cons]
    by_cases h1 : x.toNat < y.toNat
    · simp [h1]
    · by_cases h2 : y.toNat < x.toNat
      · have : (x == y) = false := by simp; intro e; subst e; omega
        simp [h1, h2, this]
      · have : (x == y) = true := by simp; exact u8ext (by omega)
        simp [h1, h2, ih, this]
end Go.Pv
-- ZpvTameA ZpvDrawT
set_option maxRecDepth 100000
namespace Go.Pv
open Go.Proofs
attribute [-simp] eLen UInt8.ofNat_add



/-! ### Pairs in order -/
def ordP (x y : By × By) : Int := cmpL (x.1 ++ [61]) (y.1 ++ [61])
theorem ordP_anti (x y : By × By) : ordP x y < 0 → ¬ ordP y x < 0 := by
  intro h
  have h1 := cmpL_anti (x.1 ++ [61]) (y.1 ++ [61])
  unfold ordP at *
  omega
theorem ordP_tr (x y z : By × By) : ¬ ordP x y < 0 → ¬ ordP y z < 0 → ¬ ordP x z < 0 := by
  intro h1 h2 h3
  unfold ordP at *
  have a1 := cmpL_anti (x.1 ++ [61]) (y.1 ++ [61])
  have a2 := cmpL_anti (y.1 ++ [61]) (z.1 ++ [61])
  have a3 := cmpL_anti (x.1 ++ [61]) (z.1 ++ [61])
  have t := cmpL_tr (z.1 ++ [61]) (y.1 ++ [61]) (x.1 ++ [61]) (by omega) (by omega)
  omega
structure InsI (L M : List (By × By)) (i : Nat) (H H0 : Heap) : Prop where
  perm : M.Perm L
  get : H.get i = some (.row 35 (M.map pairD))
  nx : H.nx = H0.nx
  G : H.G = H0.G
  rest : ∀ j, j ≠ i → H.get j = H0.get j
structure InsJ (A B R M : List (By × By)) (x : By × By) (j k : Nat) : Prop where
  eq : M = A ++ x :: (B ++ R)
  la : A.length = j
  lk : A.length + 1 + B.length = k + 2
  rise : Rise ordP (A ++ B)
  less : ∀ b ∈ B, ordP x b < 0
theorem list_snoc {α : Type} {A : List α} {j : Nat} (h : A.length = j + 1) : ∃ A' y, A = A' ++ [y] ∧ A'.length = j := by
  rcases List.eq_nil_or_concat A with rfl | ⟨A', y, rfl⟩
  · simp at h
  · exact ⟨A', y, by simp, by simpa using h⟩
attribute [local simp] Heap.put_ne
set_option maxHeartbeats 8000000 in
theorem insPair_spec (i : Nat) (L : List (By × By)) (hL : L.length ≤ 2000) (hb : ∀ p ∈ L, p.1.length ≤ 100000) (H : Heap) (hi : H.get i = some (.row 35 (L.map pairD))) :
    PCalls Tryz.prog 75 [.row i 35 0 L.length, .val (.int .i64 0), .val (.int .i64 (L.length : Nat)), .val (.func (.func 28) #[] #[])] H
      fun d H' => ∃ M, InsI L M i H' H ∧ Rise ordP M := by
  refine PCalls.of_pwp Tryz.call75 Tryz.func75 rfl (by simp [Tryz.ntmps75]) ?_
  rw [Tryz.ntmps75]
  have w1 : IntKind.i64.wrap 1 = 1 := by decide
  refine W2 ?_
  refine pwp_for ((L.length - 1)) (fun k st => st.env.n = 53 ∧ st.df = [] ∧ st.env.get 0 = .row i 35 0 L.length ∧ st.env.get 1 = .val (.int .i64 0) ∧ st.env.get 2 = .val (.int .i64 (L.length : Nat)) ∧ st.env.get 3 = .val (.func (.func 28) #[] #[]) ∧ st.env.get 8 = .val (.int .i64 ((k + 1 : Nat))) ∧ (∃ M, InsI L M i st.H H ∧ Rise ordP (M.take (k + 1)))) ⟨by first | (simp; done) | (simp [*]; done), rfl, by first | (simp; done) | (simp [*]; done), by first | (simp; done) | (simp [*]; done), by first | (simp; done) | (simp [*]; done), by first | (simp; done) | (simp [*]; done), by first | (simp; done) | (simp [*]; done), ?_⟩ ?_ ?_
  · refine ⟨L, ⟨.refl _, hi, rfl, rfl, fun _ _ => rfl⟩, ?_⟩
    cases L with
    | nil => exact List.Pairwise.nil
    | cons a l => simp [Rise]
  · rintro k ⟨E, Hx, df⟩ hk ⟨en, edf, e0, e1, e2, e3, e8, eP⟩
    simp only at en edf e0 e1 e2 e3 e8
    subst edf
    have hki : (k : Int) < (((L.length - 1) : Nat) : Int) := by omega
    have hkw := wrapSucc k (by omega)
    obtain ⟨M, hM, hR⟩ := eP
    have hml : M.length = L.length := hM.perm.length_eq
    have hk1 : ((k + 1 : Nat) : Int) < (L.length : Int) := by omega
    have hk2 : IntKind.i64.wrap (((k + 1 : Nat) : Int) + 1) = ((k + 1 + 1 : Nat) : Int) := wrapSucc (k + 1) (by omega)
    obtain ⟨k1, hk1e⟩ : ∃ k1, k + 1 = k1 := ⟨_, rfl⟩
    obtain ⟨x, hx⟩ : ∃ x, M[k1]? = some x := ⟨_, List.getElem?_eq_getElem (by omega)⟩
    have hd : M.drop k1 = x :: M.drop (k1 + 1) := by rw [List.drop_eq_getElem_cons (by omega), get_of hx]
    have hst : ∃ M' A B R x, InsI L M' i Hx H ∧ InsJ A B R M' x k1 k := by
      refine ⟨M, M.take k1, [], M.drop (k1 + 1), x, hM, ?_, ?_, ?_, ?_, ?_⟩
      · rw [List.nil_append, ← hd, List.take_append_drop]
      · simp; omega
      · simp; omega
      · rw [List.append_nil, ← hk1e]; exact hR
      · intro b hb; cases hb
    clear hM hR hx hml hd
    rw [hk1e] at e8 hk1 hk2
    refine W2 ?_
    refine pwp_loop (fun q st => ∃ j, q = j ∧ j ≤ k1 ∧ st.env.n = 53 ∧ st.df = [] ∧ st.env.get 0 = .row i 35 0 L.length ∧ st.env.get 1 = .val (.int .i64 0) ∧ st.env.get 2 = .val (.int .i64 (L.length : Nat)) ∧ st.env.get 3 = .val (.func (.func 28) #[] #[]) ∧ st.env.get 8 = .val (.int .i64 (k1 : Nat)) ∧ st.env.get 9 = .val (.int .i64 (j : Nat)) ∧
      ∃ M' A B R x, InsI L M' i st.H H ∧ InsJ A B R M' x j k) k1 ⟨k1, rfl, by omega, by simp [en], by simp, by simp [e0], by simp [e1], by simp [e2], by simp [e3], by simp [e8], by simp [en], hst⟩ ?_
    clear hst
    rintro q ⟨E, Hx, df⟩ ⟨j, hq, hj, en, edf, e0, e1, e2, e3, e8, e9, M, A, B, R, x, hI, hJ⟩
    simp only at en edf e0 e1 e2 e3 e8 e9 hI
    subst edf
    have hml : M.length = L.length := hI.perm.length_eq
    have hbM : ∀ p ∈ M, p.1.length ≤ 100000 := fun p hp => hb p (hI.perm.mem_iff.1 hp)
    obtain ⟨X, hX⟩ : ∃ X, M.map pairD = X := ⟨_, rfl⟩
    have hXl : X.length = L.length := by rw [← hX]; simpa using hml
    have hg := hI.get
    rw [hX] at hg
    have hex : ∀ E' : Env, True := fun _ => trivial
    clear hex
    by_cases hj0 : j = 0
    · -- the beginning is reached
      have hz : ¬ 0 < j := by omega
      have hA : A = [] := List.eq_nil_of_length_eq_zero (by rw [hJ.la, hj0])
      have hend : Hold (∃ M, InsI L M i Hx H ∧ Rise ordP (M.take (k1 + 1))) := ⟨⟨M, hI, by
        have := rise_ins ordP_anti ordP_tr hJ.rise hJ.less (.inl hA)
        have h2 := hJ.lk
        rw [hJ.eq, show A ++ x :: (B ++ R) = (A ++ x :: B) ++ R by simp, List.take_append_of_le_length (by simp; omega), List.take_of_length_le (by simp; omega)]
        exact this⟩⟩
      clear hI hJ hA hj0
      refine W2 ?_
      try simp [*]
      first | exact hend.out | exact ⟨by omega, hend.out⟩
    · obtain ⟨jm, hjm⟩ : ∃ jm, j = jm + 1 := ⟨j - 1, by omega⟩
      have hp0 : 0 < j := by omega
      have hjj : jm < j := by omega
      have hw1 : IntKind.i64.wrap ((j : Int) - 1) = (jm : Int) := by rw [wrapI _ (by omega) (by omega)]; omega
      have hjl : j < L.length := by have := hJ.lk; have := hJ.la; have := congrArg List.length hJ.eq; simp at this; omega
      have hjli : (j : Int) < (L.length : Int) := by omega
      have hjmi : (jm : Int) < (L.length : Int) := by omega
      obtain ⟨A', y, hA, hA'⟩ := list_snoc (hJ.la.trans hjm)
      have gx : M[j]? = some x := by rw [hJ.eq, List.getElem?_append_right (by rw [hJ.la]; omega), hJ.la, Nat.sub_self]; rfl
      have gy : M[jm]? = some y := by rw [hJ.eq, hA, List.getElem?_append_left (by simp; omega), List.getElem?_append_right (by omega), hA', Nat.sub_self]; rfl
      have gX : X[j]? = some (pairD x) := by rw [← hX, List.getElem?_map, gx]; rfl
      have gY : X[jm]? = some (pairD y) := by rw [← hX, List.getElem?_map, gy]; rfl
      have gX2 := get_of gX
      have gY2 := get_of gY
      have hc := dnormal2_spec x y (hbM x (List.mem_of_getElem? gx)) (hbM y (List.mem_of_getElem? gy))
      have hne : ¬ j = jm := by omega
      have hne' : ¬ jm = j := by omega
      have hcv : cmpL (x.1 ++ [61]) (y.1 ++ [61]) = ordP x y := rfl
      rw [hcv] at hc
      by_cases hl : ordP x y < 0
      · have hset : ((X.set j (pairD y)).set jm (pairD x)) = (A' ++ x :: (y :: B ++ R)).map pairD := by
          rw [← hX, hJ.eq, hA]
          have e1 : (A' ++ [y] ++ x :: (B ++ R)).map pairD = A'.map pairD ++ pairD y :: pairD x :: (B ++ R).map pairD := by simp
          rw [e1, List.set_append_right _ _ (by simp; omega), List.set_append_right _ _ (by simp; omega)]
          have e2 : j - (A'.map pairD).length = 1 := by simp; omega
          have e3 : jm - (A'.map pairD).length = 0 := by simp; omega
          rw [e2, e3]
          simp
        have hI2 : ∀ H2 : Heap, H2.get i = some (.row 35 ((X.set j (pairD y)).set jm (pairD x))) → H2.nx = Hx.nx → H2.G = Hx.G → (∀ j, j ≠ i → H2.get j = Hx.get j) → ∃ M' A B R x, InsI L M' i H2 H ∧ InsJ A B R M' x jm k := by
          intro H2 q1 q2 q3 q4
          refine ⟨A' ++ x :: (y :: B ++ R), A', y :: B, R, x, ⟨?_, by rw [q1, hset], q2.trans hI.nx, q3.trans hI.G, fun j hj => (q4 j hj).trans (hI.rest j hj)⟩, ⟨rfl, hA', ?_, ?_, ?_⟩⟩
          · refine List.Perm.trans ?_ hI.perm
            rw [hJ.eq, hA]
            simp only [List.append_assoc, List.cons_append, List.nil_append]
            exact List.Perm.append_left A' (List.Perm.swap y x _)
          · have := hJ.lk; rw [hA] at this; simp at this ⊢; omega
          · have := hJ.rise; rw [hA] at this; simpa using this
          · intro b hb
            rcases List.mem_cons.1 hb with rfl | hb
            · exact hl
            · exact hJ.less b hb
        have kI2 := Hold.mk hI2
        clear hset hI2 hI hJ hA hA' gx gy hX hbM hjm
        simp only [pairD] at gX gY gX2 gY2 hc kI2
        refine W2 ?_
        refine PCalls.mono (hc _) ?_
        intro d3 H3 hd3
        rw [hd3.1, hd3.2]
        clear hd3
        try simp [*]
        try simp [*]
        refine W2 ?_
        refine ⟨jm, by omega, jm, rfl, by omega, by simp [*], rfl, by simp [*], by simp [*], by simp [*], by simp [*], by simp [*], by simp [*], kI2.out _ ?_ ?_ ?_ ?_⟩
        · simp [setIn, updD, sD]
        · simp
        · simp
        · intro j hj
          simp [hj]
      · have hend : Hold (∃ M, InsI L M i Hx H ∧ Rise ordP (M.take (k1 + 1))) := ⟨⟨M, hI, by
          have := rise_ins ordP_anti ordP_tr hJ.rise hJ.less (.inr ⟨A', y, hA, hl⟩)
          have h2 := hJ.lk
          rw [hJ.eq, show A ++ x :: (B ++ R) = (A ++ x :: B) ++ R by simp, List.take_append_of_le_length (by simp; omega), List.take_of_length_le (by simp; omega)]
          exact this⟩⟩
        clear hI hJ hA hA' gx gy hX hbM hjm
        simp only [pairD] at gX gY gX2 gY2 hc
        refine W2 ?_
        refine PCalls.mono (hc _) ?_
        intro d3 H3 hd3
        rw [hd3.1, hd3.2]
        clear hd3
        try simp [*]
        try simp [*]
        refine W2 ?_
        simp [*]
        first | exact hend.out | exact ⟨by omega, hend.out⟩
  · rintro ⟨E, Hx, df⟩ ⟨en, edf, e0, e1, e2, e3, e8, eP⟩
    simp only at en edf e0 e1 e2 e3 e8
    subst edf
    obtain ⟨M, hM, hR⟩ := eP
    have hml : M.length = L.length := hM.perm.length_eq
    have hz : ¬ ((L.length - 1 + 1 : Nat) : Int) < (L.length : Int) := by omega
    have hend : Hold (∃ M, InsI L M i Hx H ∧ Rise ordP M) := ⟨⟨M, hM, by rw [List.take_of_length_le (by omega)] at hR; exact hR⟩⟩
    obtain ⟨N, hN⟩ : ∃ N, L.length - 1 + 1 = N := ⟨_, rfl⟩
    rw [hN] at e8 hz
    clear hM hR hml hN
    refine W2 ?_
    simp [*]
    exact hend.out
end Go.Pv
-- ZpvTameA ZpvDrawT
set_option maxRecDepth 100000
namespace Go.Pv
open Go.Proofs
attribute [-simp] eLen UInt8.ofNat_add




/-! ### Sorting few pairs -/
set_option maxHeartbeats 4000000 in
theorem pdqPair_spec (i : Nat) (L : List (By × By)) (z : Int) (hL : L.length ≤ 12) (hb : ∀ p ∈ L, p.1.length ≤ 100000) (H : Heap) (hi : H.get i = some (.row 35 (L.map pairD))) :
    PCalls Tryz.prog 53 [.row i 35 0 L.length, .val (.int .i64 0), .val (.int .i64 (L.length : Nat)), .val (.int .i64 z), .val (.func (.func 28) #[] #[])] H
      fun d H' => ∃ M, InsI L M i H' H ∧ Rise ordP M := by
  have hI := insPair_spec i L (by omega) hb H hi
  have w0 : IntKind.i64.wrap (L.length : Int) = (L.length : Int) := wrapI _ (by omega) (by omega)
  have hli : (L.length : Int) ≤ 12 := by omega
  have hz : Hold (H.get i = some (.row 35 (L.map pairD))) := ⟨hi⟩
  clear hi hb
  obtain ⟨n, hn⟩ : ∃ n, L.length = n := ⟨_, rfl⟩
  rw [hn] at hI w0 hli ⊢
  clear hn
  refine PCalls.of_pwp Tryz.call53 Tryz.func53 rfl (by simp [Tryz.ntmps53]) ?_
  rw [Tryz.ntmps53]
  refine W2 ?_
  refine pwp_for (0) (fun k st => st.env.n = 148 ∧ st.df = [] ∧ st.H = H ∧ st.env.get 0 = .row i 35 0 n ∧ st.env.get 1 = .val (.int .i64 0) ∧ st.env.get 2 = .val (.int .i64 (n : Nat)) ∧ st.env.get 3 = .val (.int .i64 z) ∧ st.env.get 4 = .val (.func (.func 28) #[] #[])) ⟨by first | (simp; done) | (simp [*]; done), rfl, by first | rfl | simp, by first | (simp; done) | (simp [*]; done), by first | (simp; done) | (simp [*]; done), by first | (simp; done) | (simp [*]; done), by first | (simp; done) | (simp [*]; done), by first | (simp; done) | (simp [*]; done)⟩ ?_ ?_
  · rintro k st hk; omega
  · rintro ⟨E, Hx, df⟩ ⟨en, edf, eH, e0, e1, e2, e3, e4⟩
    simp only at en edf eH e0 e1 e2 e3 e4
    subst edf; replace eH := eH.symm; subst eH
    refine W2 ?_
    refine PCalls.mono hI ?_
    rintro d H' hM
    have kM := Hold.mk hM
    clear hM hI
    try simp [*]
    refine W2 ?_
    try simp [*]
    exact kM.out
def blen (n : Nat) : Int := if n = 0 then 0 else if n = 1 then 1 else if n < 4 then 2 else if n < 8 then 3 else 4
theorem bits_run : ((List.range 13).all fun n => match runFz Tryz.prog 60 54 [.val (.int .u64 (n : Nat))] with | some (.val (.int .i64 z)) => decide (z = blen n) | _ => false) = true := by kernel_rfl
theorem bitsLen_spec (n : Nat) (hn : n ≤ 12) (H : Heap) : PCalls Tryz.prog 54 [.val (.int .u64 (n : Nat))] H fun d H' => d = .val (.int .i64 (blen n)) ∧ H' = H := by
  have hc := List.all_eq_true.1 bits_run n (List.mem_range.2 (by omega))
  split at hc
  · rename_i z e
    rw [of_decide_eq_true hc] at e
    exact PCalls.liftG (runFz_spec mixedO e) (fun d hd => by simp at hd; subst hd; exact .val _) (.val _) H
  · cases hc
set_option maxHeartbeats 4000000 in
theorem sortPair_spec (L : List (By × By)) (d0 : D) (hL : L.length ≤ 12) (hne : L ≠ []) (hb : ∀ p ∈ L, p.1.length ≤ 100000) (H : Heap) (hG : Grow H d0 35 (L.map pairD)) :
    PCalls Tryz.prog 27 [d0, .val (.func (.func 28) #[] #[])] H fun d H' => ∃ M, M.Perm L ∧ Rise ordP M ∧ Grow H' d0 35 (M.map pairD) ∧ H'.nx = H.nx ∧ H'.G = H.G := by
  rcases hG with ⟨h, _⟩ | ⟨i, h1, rfl, h3, h4⟩
  · exact absurd (by simpa using h) hne
  have hP := fun z => pdqPair_spec i L z hL hb H h3
  have hB := bitsLen_spec L.length hL
  have kfin : Hold (∀ H' : Heap, (∃ M, InsI L M i H' H ∧ Rise ordP M) → ∃ M, M.Perm L ∧ Rise ordP M ∧ Grow H' (.row i 35 0 (L.map pairD).length) 35 (M.map pairD) ∧ H'.nx = H.nx ∧ H'.G = H.G) := ⟨by
    rintro H' ⟨M, hI, hR⟩
    refine ⟨M, hI.perm, hR, .inr ⟨i, by rw [hI.nx]; exact h1, ?_, hI.get, ?_⟩, hI.nx, hI.G⟩
    · simp [hI.perm.length_eq]
    · intro q
      have := hI.perm.length_eq
      rw [List.map_eq_nil_iff.1 q] at this
      exact hne (List.eq_nil_of_length_eq_zero this.symm)⟩
  have w0 : IntKind.u64.wrap (L.length : Int) = (L.length : Int) := by simp [IntKind.wrap, IntKind.bits, IntKind.signed]; omega
  clear h3 h4 h1 hb
  rw [List.length_map] at kfin ⊢
  have kL := Hold.mk hL
  obtain ⟨n, hn⟩ : ∃ n, L.length = n := ⟨_, rfl⟩
  rw [hn] at hP hB w0 kfin ⊢
  clear hn hL
  refine PCalls.of_pwp Tryz.call27 Tryz.func27 rfl (by simp [Tryz.ntmps27]) ?_
  rw [Tryz.ntmps27]
  refine W2 ?_
  refine PCalls.mono (hB _) ?_
  intro d3 H3 hd3
  rw [hd3.1, hd3.2]
  clear hd3
  try simp [*]
  try simp [*]
  refine W2 ?_
  refine PCalls.mono (hP _) ?_
  rintro d H' hM
  have kM := Hold.mk (kfin.out _ hM)
  clear hM hP
  try simp [*]
  refine W2 ?_
  try simp [*]
  exact kM.out
end Go.Pv
namespace Go.Pv
/-! ### Keys are not long -/
theorem chars_len : ∀ (n : Nat) (l : By) (cs : List (Nat × By)), l.length ≤ n → chars l = some cs → cs.length ≤ l.length := by
  intro n
  induction n with
  | zero => intro l cs hn h; have : l = [] := List.length_eq_zero_iff.1 (by omega); subst this; rw [chars_nil] at h; cases h; simp
  | succ n ih =>
    intro l cs hn h
    by_cases hl : l = []
    · subst hl; rw [chars_nil] at h; cases h; simp
    · rw [chars_cons hl] at h
      cases hq : nextM l with
      | none => rw [hq] at h; cases h
      | some q =>
        obtain ⟨v, m⟩ := q
        have hm := nextM_len hq
        rw [hq] at h
        simp only at h
        obtain ⟨ds, hds, rfl⟩ := Option.map_eq_some_iff.1 h
        have := ih (l.drop m) ds (by simp; omega) hds
        simp at this ⊢
        omega
theorem prepM_len (ends letters : Bool) (l : By) : (prepM ends letters l).length ≤ 5 * l.length + 1 := by
  unfold prepM
  cases hc : chars l with
  | none => simp; omega
  | some cs =>
    simp only
    have h1 : ∀ c ∈ cs, c.2.length ≤ 4 := chars_own _ _ _ hc
    have h2 := prepR_len ends letters cs h1
    have h3 := chars_len _ _ _ (Nat.le_refl _) hc
    unfold prepC
    rw [List.length_append]
    split <;> simp <;> omega
theorem hold_len {s : Int} {l k : By} (h : holdM s l = some k) : k.length ≤ 100000 := by
  obtain ⟨_, h1, _, h2⟩ := holdM_some h
  rw [← h2]
  unfold keyM
  split
  · have := prepM_len false true l; simp only; omega
  split
  · have := prepM_len false false l; simp only; omega
  split
  · have := plainM_len l; simp only; omega
  split
  · simp only; omega
  split
  · simp only; omega
  split
  · have := delB_len 32 l
    simp only [numericM]
    split
    · simp only [Option.getD_some]; omega
    · simp
  split
  · simp [pointM, textF]
  split
  · simp only [objectM]
    split
    · have := nm_small (fcls l); simp [lowL]; omega
    · simp [lowL]; omega
  · simp
end Go.Pv
-- ZpvTameA ZpvDrawT
set_option maxRecDepth 100000
namespace Go.Pv
open Go.Proofs
attribute [-simp] eLen UInt8.ofNat_add




/-! ### A level as it is held -/
def normS (acc : List (By × By)) (p : By × By) : Except Int (List (By × By)) :=
  if fatt p.1 < 20 then match holdM (asy (fatt p.1)) p.2 with
    | none => .error 2
    | some k => if acc.any (fun x => decide (x.1 = lowL (an (fatt p.1)))) then .error 2 else .ok (acc ++ [(lowL (an (fatt p.1)), k)])
  else .error 13
def normM (l : List (By × By)) : Except Int (List (By × By)) := l.foldlM normS []
def normR (l : List (By × By)) (r : D) : Prop := match normM l with
  | .error e => r = .tup [.slice 1 0 [], .val (.int .i64 e)]
  | .ok m => ∃ M, M.Perm m ∧ Rise ordP M ∧ r = .tup [frD 35 (M.map pairD), .val (.int .i64 0)]
theorem foldlM_take {ε α β : Type} (f : β → α → Except ε β) (b : β) {l : List α} {k : Nat} {x : α} (h : l[k]? = some x) : (l.take (k + 1)).foldlM f b = (do let y ← (l.take k).foldlM f b; f y x) := by
  rw [List.take_add_one, h]
  simp [List.foldlM_append]
theorem foldlM_err {ε α β : Type} (f : β → α → Except ε β) (b : β) {l : List α} {k : Nat} {e : ε} (h : (l.take k).foldlM f b = .error e) : l.foldlM f b = .error e := by
  conv => lhs; rw [← List.take_append_drop k l]
  rw [List.foldlM_append, h]
  rfl
theorem low_an_len (k : Nat) : (lowL (an k)).length ≤ 100000 := by
  have := an_small k
  simpa [lowL] using this
theorem Grow.boxed {H : Heap} {d : D} {e : TypeId} {l : List D} (h : Grow H d e l) (o p : PObj) : Grow ((H.new o).put H.nx (some p)) d e l :=
  (h.new o).putO _ _ (NotIt.other h (Nat.le_refl _))
attribute [local simp] Heap.new_ne Heap.put_ne findD optK
set_option maxHeartbeats 8000000 in
theorem dnormal_local (m : Int) (g e : Nat) (l : List (By × By)) (he : e = 35 ∨ l = []) (hl : l.length ≤ 12) (hne : l ≠ []) (hb : ∀ p ∈ l, p.1.length ≤ 100000 ∧ p.2.length ≤ 100000) :
    PCalls Tryz.prog 12 [.slice g e (l.map pairD)] (noHeap (maxG 0 m)) fun d H' => ∃ r, fz Tryz.prog 6 H' d = some r ∧ normR l r := by
  refine PCalls.of_pwp Tryz.call12 Tryz.func12 rfl (by simp [Tryz.ntmps12]) ?_
  rw [Tryz.ntmps12]
  have lN : (l.map pairD).length = l.length := by simp
  have gN := fun k x (h : l[k]? = some x) => (show (l.map pairD)[k]? = some (pairD x) by rw [List.getElem?_map, h]; rfl)
  have kg := Hold.mk gN
  clear gN
  obtain ⟨X, hX⟩ : ∃ X, l.map pairD = X := ⟨_, rfl⟩
  rw [hX] at lN kg ⊢
  clear hX
  have hz : e = 35 := by rcases he with h | h; exact h; exact absurd h hne
  subst hz
  refine W2 ?_
  refine pwp_for (l.length) (fun k st => st.env.n = 53 ∧ st.df = [] ∧ st.env.get 11 = .slice g 35 X ∧ st.env.get 12 = .val (.int .i64 (l.length : Nat)) ∧ st.env.get 13 = .val (.int .i64 (k : Nat)) ∧ (st.H.G = maxG 0 m) ∧ (∃ acc, (l.take k).foldlM normS [] = .ok acc ∧ acc.length = k ∧ (∀ p ∈ acc, p.1.length ≤ 100000) ∧ Grow st.H (st.env.get 4) 35 (acc.map pairD))) ⟨by first | (simp; done) | (simp [*]; done), rfl, by first | (simp; done) | (simp [*]; done), by first | (simp; done) | (simp [*]; done), by first | (simp; done) | (simp [*]; done), ?_, ?_⟩ ?_ ?_
  · rfl
  · exact ⟨[], by simp; rfl, rfl, by simp, by simpa using Grow.nil _ _⟩
  · rintro k ⟨E, Hx, df⟩ hk ⟨en, edf, e11, e12, e13, eP, eP1⟩
    simp only at en edf e11 e12 e13
    subst edf
    have hki : (k : Int) < ((l.length : Nat) : Int) := by omega
    have hkw := wrapSucc k (by omega)
    obtain ⟨acc, ha, hal, hab, hG⟩ := eP1
    obtain ⟨d4, e4⟩ : ∃ d, E.get 4 = d := ⟨_, rfl⟩
    simp only [e4] at hG
    obtain ⟨x, hx⟩ : ∃ x, l[k]? = some x := ⟨_, List.getElem?_eq_getElem hk⟩
    have x1 := kg.out k x hx
    have x2 : X.getD k .undef = pairD x := by rw [List.getD, x1]; rfl
    have x3 := get_of x1
    obtain ⟨b1, b2⟩ := hb x (List.mem_of_getElem? hx)
    have hs : (l.take (k + 1)).foldlM normS [] = normS acc x := by rw [foldlM_take normS [] hx, ha]; rfl
    have kerr : Hold (∀ e, normS acc x = .error e → normM l = .error e) := ⟨fun e h => foldlM_err normS [] (hs.trans h)⟩
    have ks := Hold.mk hs
    clear hs hx ha
    obtain ⟨t, v⟩ := x
    simp only [pairD] at x1 x2 x3 b1 b2
    have hdef : normS acc (t, v) = (if fatt t < 20 then match holdM (asy (fatt t)) v with
      | none => .error 2
      | some k => if acc.any (fun x => decide (x.1 = lowL (an (fatt t)))) then .error 2 else .ok (acc ++ [(lowL (an (fatt t)), k)])
      else .error 13) := rfl
    have hF := Find_spec t b1
    obtain ⟨a, hfa⟩ : ∃ a, fatt t = a := ⟨_, rfl⟩
    unfold findD at hF
    rw [hfa] at hdef hF
    clear hfa
    have hmx : MaxIs Hx 0 := ⟨m, by rw [eP, maxG, if_pos rfl]⟩
    by_cases h20 : a < 20
    · rw [if_pos h20] at hdef
      have hKey := Key_spec (asy a) v b2
      have hlow := Lower_spec (an a) (an_small a)
      obtain ⟨o, ho⟩ : ∃ o, holdM (asy a) v = o := ⟨_, rfl⟩
      rw [ho] at hdef hKey
      cases o with
      | none =>
        simp only at hdef
        have hfin : Hold (∀ H', ∃ r, fz Tryz.prog 6 H' (.tup [.slice 1 0 [], .val (.int .i64 2)]) = some r ∧ normR l r) := ⟨fun _ => ⟨_, rfl, by unfold normR; rw [kerr.out _ hdef]⟩⟩
        clear hdef kerr ks hG
        refine W2 ?_
        refine PCalls.mono (hF _) ?_
        intro d3 H3 hd3
        rw [hd3.1, hd3.2]
        clear hd3
        try simp [*]
        try simp [*]
        refine W2 ?_
        refine PCalls.mono (hKey _ (by exact hmx)) ?_
        intro d3 H3 hd3
        rw [hd3.1, hd3.2]
        clear hd3
        try simp [*]
        try simp [*]
        refine W2 ?_
        refine PCalls.mono (hlow _) ?_
        intro d3 H3 hd3
        rw [hd3.1, hd3.2]
        clear hd3
        try simp [*]
        try simp [*]
        refine W2 ?_
        simp [*]
        exact hfin.out _
      | some w =>
        simp only at hdef
        obtain ⟨lw, hlw⟩ : ∃ x, lowL (an a) = x := ⟨_, rfl⟩
        have hlwl := low_an_len a
        rw [hlw] at hdef hlow hlwl
        clear hlw
        have hC := fun (H : Heap) (i : Nat) (h1 : Grow H d4 35 (acc.map pairD)) (h2 : H.get i = some (.cells [sD lw, sD w])) => conPair_own (lw, w) (i := i) h1 (by omega) h2
        simp only at hC
        obtain ⟨b, hbb⟩ : ∃ b, (acc.any fun x => decide (x.1 = lw)) = b := ⟨_, rfl⟩
        rw [hbb] at hC hdef
        clear hbb
        have kG := Hold.mk hG
        clear hG
        cases b with
        | true =>
          rw [if_pos rfl] at hdef
          have hfin : Hold (∀ H', ∃ r, fz Tryz.prog 6 H' (.tup [.slice 1 0 [], .val (.int .i64 2)]) = some r ∧ normR l r) := ⟨fun _ => ⟨_, rfl, by unfold normR; rw [kerr.out _ hdef]⟩⟩
          clear hdef kerr ks
          refine W2 ?_
          refine PCalls.mono (hF _) ?_
          intro d3 H3 hd3
          rw [hd3.1, hd3.2]
          clear hd3
          try simp [*]
          try simp [*]
          refine W2 ?_
          refine PCalls.mono (hKey _ (by exact hmx)) ?_
          intro d3 H3 hd3
          rw [hd3.1, hd3.2]
          clear hd3
          try simp [*]
          try simp [*]
          refine W2 ?_
          refine PCalls.mono (hlow _) ?_
          intro d3 H3 hd3
          rw [hd3.1, hd3.2]
          clear hd3
          try simp [*]
          try simp [*]
          refine W2 ?_
          refine PCalls.mono (hC _ _ (((kG.out.boxed _ _).boxed _ _).boxed _ _) (by simp [sD])) ?_
          intro d3 H3 hd3
          rw [hd3.1, hd3.2]
          clear hd3
          try simp [*]
          refine W2 ?_
          simp [*]
          exact hfin.out _
        | false =>
          rw [if_neg (by decide)] at hdef
          have hnext : Hold ((l.take (k + 1)).foldlM normS [] = .ok (acc ++ [(lw, w)])) := ⟨ks.out.trans hdef⟩
          have hbb2 : ∀ p ∈ acc ++ [(lw, w)], p.1.length ≤ 100000 := fun p hp => by
            rcases List.mem_append.1 hp with hp | hp
            · exact hab p hp
            · simp at hp; subst hp; exact hlwl
          have kb2 := Hold.mk hbb2
          have hgl : ((acc.map pairD).length + 1) * 32 ≤ 140737488355328 := by simp; omega
          clear hdef kerr ks hab hbb2
          refine W2 ?_
          refine PCalls.mono (hF _) ?_
          intro d3 H3 hd3
          rw [hd3.1, hd3.2]
          clear hd3
          try simp [*]
          try simp [*]
          refine W2 ?_
          refine PCalls.mono (hKey _ (by exact hmx)) ?_
          intro d3 H3 hd3
          rw [hd3.1, hd3.2]
          clear hd3
          try simp [*]
          try simp [*]
          refine W2 ?_
          refine PCalls.mono (hlow _) ?_
          intro d3 H3 hd3
          rw [hd3.1, hd3.2]
          clear hd3
          try simp [*]
          try simp [*]
          refine W2 ?_
          refine PCalls.mono (hC _ _ (((kG.out.boxed _ _).boxed _ _).boxed _ _) (by simp [sD])) ?_
          intro d3 H3 hd3
          rw [hd3.1, hd3.2]
          clear hd3
          try simp [*]
          refine W2 ?_
          refine oK_grow (((kG.out.boxed _ _).boxed _ _).boxed _ _) hgl ?_
          intro d5 H5 hG5 hn5 hg5 hf5
          clear hf5
          have hG6 : Grow H5 d5 35 ((acc ++ [(lw, w)]).map pairD) := by rw [List.map_append]; exact hG5
          have kG6 := Hold.mk hG6
          clear hG5 hG6
          have hg6 : H5.G = maxG 0 m := hg5.trans eP
          clear hg5
          try simp [*]
          refine W2 ?_
          simp [*]
          exact ⟨_, hnext.out, by simp [hal], fun a b h => kb2.out (a, b) h, kG6.out⟩
    · rw [if_neg h20] at hdef
      have hfin : Hold (∀ H', ∃ r, fz Tryz.prog 6 H' (.tup [.slice 1 0 [], .val (.int .i64 13)]) = some r ∧ normR l r) := ⟨fun _ => ⟨_, rfl, by unfold normR; rw [kerr.out _ hdef]⟩⟩
      clear hdef kerr ks hG
      refine W2 ?_
      refine PCalls.mono (hF _) ?_
      intro d3 H3 hd3
      rw [hd3.1, hd3.2]
      clear hd3
      try simp [*]
      try simp [*]
      refine W2 ?_
      try simp [*]
      exact hfin.out _
  · rintro ⟨E, Hx, df⟩ ⟨en, edf, e11, e12, e13, eP, eP1⟩
    simp only at en edf e11 e12 e13
    subst edf
    obtain ⟨acc, ha, hal, hab, hG⟩ := eP1
    obtain ⟨d4, e4⟩ : ∃ d, E.get 4 = d := ⟨_, rfl⟩
    simp only [e4, List.take_length] at hG ha
    have hne2 : acc ≠ [] := fun q => by rw [q] at hal; exact hne (List.eq_nil_of_length_eq_zero hal.symm)
    have hS := sortPair_spec acc d4 (by omega) hne2 hab Hx hG
    have hfin : Hold (∀ (H' : Heap) M, M.Perm acc → Rise ordP M → Grow H' d4 35 (M.map pairD) → ∃ r, fz Tryz.prog 6 H' (.tup [d4, .val (.int .i64 0)]) = some r ∧ normR l r) := ⟨fun H' M h1 h2 h3 =>
      ⟨_, fz_tup2 (Grow.fz h3 (fzi_map (fz_pairs 2 _) M)), by unfold normR normM; rw [ha]; exact ⟨M, h1, h2, rfl⟩⟩⟩
    clear hG ha hab
    refine W2 ?_
    refine PCalls.mono hS ?_
    rintro d H' ⟨M, h1, h2, h3, _, _⟩
    have kf := Hold.mk (hfin.out H' M h1 h2 h3)
    clear h1 h2 h3 hfin hS
    try simp [*]
    refine W2 ?_
    try simp [*]
    exact kf.out
end Go.Pv
set_option maxRecDepth 100000
namespace Go.Pv
open Go.Proofs

/-! ### A level's text: plain laws -/
def insT (t : By) : List By → List By
  | [] => [t]
  | y :: l => if Op.bytesLess y t = true then y :: insT t l else t :: y :: l
def sortT (L : List By) : List By := L.foldl (fun acc t => insT t acc) []
theorem insT_perm (t : By) : ∀ l, (insT t l).Perm (t :: l)
  | [] => .refl _
  | y :: l => by
    unfold insT
    split
    · exact ((insT_perm t l).cons y).trans (.swap t y l)
    · exact .refl _
theorem insT_len (t : By) (l : List By) : (insT t l).length = l.length + 1 := (insT_perm t l).length_eq
theorem cmpL_less_tr {a b c : By} (h1 : cmpL a b < 0) (h2 : ¬ cmpL c b < 0) : ¬ cmpL c a < 0 := by
  intro h
  have a1 := cmpL_anti a b
  have a2 := cmpL_anti c b
  have t := cmpL_tr c a b (by omega) (by omega)
  have t2 := cmpL_tr b c a (by omega) (by omega)
  omega
theorem insT_rise (t : By) : ∀ l, Rise cmpL l → Rise cmpL (insT t l)
  | [], _ => by simp [insT, Rise]
  | y :: l, h => by
    obtain ⟨h1, h2⟩ := List.pairwise_cons.1 h
    unfold insT
    split
    · rename_i q
      rw [less_cmp] at q
      have q := of_decide_eq_true q
      refine List.pairwise_cons.2 ⟨fun x hx => ?_, insT_rise t l h2⟩
      rcases List.mem_cons.1 ((insT_perm t l).mem_iff.1 hx) with rfl | hx
      · have := cmpL_anti y x; omega
      · exact h1 x hx
    · rename_i q
      rw [less_cmp] at q
      have q : ¬ cmpL y t < 0 := fun e => q (decide_eq_true e)
      refine List.pairwise_cons.2 ⟨fun x hx => ?_, h⟩
      rcases List.mem_cons.1 hx with rfl | hx
      · exact q
      · have h3 := h1 x hx
        intro h4
        have a1 := cmpL_anti y t
        have a2 := cmpL_anti x y
        have a3 := cmpL_anti x t
        have := cmpL_tr t y x (by omega) (by omega)
        omega
theorem sortT_snoc (L : List By) (t : By) : sortT (L ++ [t]) = insT t (sortT L) := by simp [sortT]
theorem sortT_good (L : List By) : (sortT L).Perm L ∧ Rise cmpL (sortT L) := by
  have key : ∀ (L acc : List By), Rise cmpL acc → (L.foldl (fun acc t => insT t acc) acc).Perm (acc ++ L) ∧ Rise cmpL (L.foldl (fun acc t => insT t acc) acc) := by
    intro L
    induction L with
    | nil => intro acc h; exact ⟨by simp, h⟩
    | cons t L ih =>
      intro acc h
      obtain ⟨h1, h2⟩ := ih (insT t acc) (insT_rise t acc h)
      refine ⟨h1.trans ?_, h2⟩
      refine ((insT_perm t acc).append_right L).trans ?_
      exact (List.perm_middle (l₁ := acc) (a := t) (l₂ := L)).symm
  exact key L [] List.Pairwise.nil
theorem cmpL_ant (x y : By) (h1 : ¬ cmpL x y < 0) (h2 : ¬ cmpL y x < 0) : x = y := by
  have := cmpL_anti x y
  exact (cmpL_eq x y).1 (by omega)
theorem sortT_unique {T L : List By} (h1 : T.Perm L) (h2 : Rise cmpL T) : T = sortT L :=
  rise_ext cmpL_ant h2 (sortT_good L).2 (h1.trans (sortT_good L).1.symm)
/-- Behind two types that are not alike nothing matters. -/
theorem cmp_types (u v : By) : ∀ (a b : By), a ≠ b → (61 : UInt8) ∉ a → (61 : UInt8) ∉ b → cmpL (a ++ 61 :: u) (b ++ 61 :: v) = cmpL (a ++ [61]) (b ++ [61])
  | [], [], h, _, _ => absurd rfl h
  | [], y :: b, _, _, hb => by
    have hy : y ≠ 61 := fun e => hb (by simp [e])
    have hn : y.toNat ≠ 61 := fun e => hy (UInt8.toNat_inj.1 (by rw [e]; rfl))
    simp only [List.nil_append, List.cons_append, cmpL_cons]
    have : (61 : UInt8).toNat = 61 := rfl
    rcases Nat.lt_or_ge y.toNat 61 with h | h
    · rw [if_neg (by omega), if_pos (by omega), if_neg (by omega), if_pos (by omega)]
    · rw [if_pos (by omega), if_pos (by omega)]
  | x :: a, [], _, ha, _ => by
    have hy : x ≠ 61 := fun e => ha (by simp [e])
    have hn : x.toNat ≠ 61 := fun e => hy (UInt8.toNat_inj.1 (by rw [e]; rfl))
    simp only [List.nil_append, List.cons_append, cmpL_cons]
    have : (61 : UInt8).toNat = 61 := rfl
    rcases Nat.lt_or_ge x.toNat 61 with h | h
    · rw [if_pos (by omega), if_pos (by omega)]
    · rw [if_neg (by omega), if_pos (by omega), if_neg (by omega), if_pos (by omega)]
  | x :: a, y :: b, h, ha, hb => by
    simp only [List.cons_append, cmpL_cons]
    by_cases h1 : x.toNat < y.toNat
    · rw [if_pos h1, if_pos h1]
    · by_cases h2 : y.toNat < x.toNat
      · rw [if_neg h1, if_neg h1, if_pos h2, if_pos h2]
      · have e : x = y := UInt8.toNat_inj.1 (by omega)
        rw [if_neg h1, if_neg h1, if_neg h2, if_neg h2]
        exact cmp_types u v a b (fun q => h (by rw [e, q])) (fun q => ha (by simp [q])) (fun q => hb (by simp [q]))
theorem an_noeq : ((List.range 20).all fun k => decide ((61 : UInt8) ∉ lowL (an k) ∧ (lowL (an k)).length ≤ 2000)) = true := by decide +kernel
theorem an_no (k : Nat) (h : k < 20) : (61 : UInt8) ∉ lowL (an k) ∧ (lowL (an k)).length ≤ 2000 := of_decide_eq_true (List.all_eq_true.1 an_noeq k (List.mem_range.2 h))
/-- What is collected: types that are not alike, of attributes. -/
structure Coll (acc : List (By × By)) : Prop where
  apart : acc.Pairwise fun x y => x.1 ≠ y.1
  noeq : ∀ p ∈ acc, (61 : UInt8) ∉ p.1 ∧ p.1.length ≤ 2000
  keys : ∀ p ∈ acc, p.2.length ≤ 100000
theorem coll_step {acc : List (By × By)} {p : By × By} {a2 : List (By × By)} (h : Coll acc) (hs : normS acc p = .ok a2) : Coll a2 ∧ a2.length = acc.length + 1 ∧ ∃ q, a2 = acc ++ [q] := by
  unfold normS at hs
  split at hs
  · rename_i h20
    split at hs
    · cases hs
    · rename_i k hk
      split at hs
      · cases hs
      · rename_i ha
        cases hs
        have ha2 : ∀ x ∈ acc, x.1 ≠ lowL (an (fatt p.1)) := fun x hx e => ha (List.any_eq_true.2 ⟨x, hx, decide_eq_true e⟩)
        refine ⟨⟨List.pairwise_append.2 ⟨h.apart, by simp, fun x hx y hy => by simp at hy; subst hy; exact ha2 x hx⟩, fun q hq => ?_, fun q hq => ?_⟩, by simp, _, rfl⟩
        · rcases List.mem_append.1 hq with hq | hq
          · exact h.noeq q hq
          · simp at hq; subst hq; exact an_no _ h20
        · rcases List.mem_append.1 hq with hq | hq
          · exact h.keys q hq
          · simp at hq; subst hq; exact hold_len hk
  · cases hs
theorem coll_fold : ∀ (l acc a2 : List (By × By)), Coll acc → l.foldlM normS acc = .ok a2 → Coll a2 ∧ a2.length = acc.length + l.length
  | [], acc, a2, h, hs => by cases hs; exact ⟨h, by simp⟩
  | p :: l, acc, a2, h, hs => by
    rw [List.foldlM_cons] at hs
    cases hq : normS acc p with
    | error e => rw [hq] at hs; cases hs
    | ok b =>
      rw [hq] at hs
      obtain ⟨h1, h2, _⟩ := coll_step h hq
      obtain ⟨h3, h4⟩ := coll_fold l b a2 h1 hs
      exact ⟨h3, by rw [h4, h2, List.length_cons]; omega⟩
theorem norm_coll {l m : List (By × By)} (h : normM l = .ok m) : Coll m ∧ m.length = l.length := by
  obtain ⟨h1, h2⟩ := coll_fold l [] m ⟨.nil, by simp, by simp⟩ h
  exact ⟨h1, by simpa using h2⟩
def levK (l : List (By × By)) : Except Int By := match normM l with
  | .error e => .error e
  | .ok m => .ok (joinB 43 (sortT (m.map textP)))
theorem sorted_text {m M : List (By × By)} (hc : Coll m) (hp : M.Perm m) (hr : Rise ordP M) : M.map textP = sortT (m.map textP) := by
  refine sortT_unique (hp.map textP) ?_
  unfold Rise at *
  rw [List.pairwise_map]
  have hap : M.Pairwise fun x y => x.1 ≠ y.1 := (hp.pairwise_iff (fun h e => h e.symm)).2 hc.apart
  refine (List.Pairwise.and hr hap).imp_of_mem ?_
  rintro x y hx hy ⟨h1, h2⟩
  have hx := (hc.noeq x (hp.mem_iff.1 hx)).1
  have hy := (hc.noeq y (hp.mem_iff.1 hy)).1
  unfold textP
  rw [cmp_types _ _ y.1 x.1 (fun e => h2 e.symm) hy hx]
  exact h1
def levR (l : List (By × By)) (d : D) : Prop := match levK l with
  | .error e => d = .tup [.slice 1 0 [], .val (.int .i64 e)]
  | .ok t => ∃ M, d = .tup [.slice 0 35 (M.map pairD), .val (.int .i64 0)] ∧ levT M = t ∧ LvB M
theorem normR_lev {l : List (By × By)} {d : D} (hl : l.length ≤ 12) (hne : l ≠ []) (h : normR l d) : levR l d := by
  unfold normR at h
  unfold levR levK
  cases hn : normM l with
  | error e => rw [hn] at h; exact h
  | ok m =>
    rw [hn] at h
    obtain ⟨M, h1, h2, rfl⟩ := h
    obtain ⟨hc, hlen⟩ := norm_coll hn
    have hML : M.length = l.length := by rw [h1.length_eq, hlen]
    have hMne : M ≠ [] := fun q => hne (List.eq_nil_of_length_eq_zero (by rw [← hML, q]; rfl))
    refine ⟨M, ?_, ?_, by omega, fun p hp => ⟨(hc.noeq p (h1.mem_iff.1 hp)).2, hc.keys p (h1.mem_iff.1 hp)⟩⟩
    · unfold frD; rw [if_neg (by simpa using hMne)]
    · show joinB 43 (M.map textP) = _
      rw [sorted_text hc h1 h2]
def normalM (n : List (List (By × By))) : Except Int By :=
  if (decide (12 < n.length) || n.any fun l => decide (4 < l.length)) then .error 3
  else if n.any (fun l => decide (l.length = 0)) then .error 11
  else match n.mapM levK with
    | .error e => .error e
    | .ok L => if 1024 < (joinB 44 L).length then .error 3 else .ok (joinB 44 L)
def resD (x : Except Int By) : D := match x with
  | .error e => .tup [sD [], .val (.int .i64 e)]
  | .ok t => .tup [sD t, .val (.int .i64 0)]
end Go.Pv
-- ZpvTameA ZpvDrawT
set_option maxRecDepth 100000
namespace Go.Pv
open Go.Proofs
attribute [-simp] eLen UInt8.ofNat_add




/-! ### dn.Normal -/
theorem pure_tup2 {d e : D} (h1 : Pure d) (h2 : Pure e) : Pure (.tup [d, e]) := .tup _ fun x hx => by
  simp only [List.mem_cons, List.mem_nil_iff, or_false] at hx
  rcases hx with rfl | rfl
  · exact h1
  · exact h2
theorem pure_nil1 : Pure (.slice 1 0 []) := .slice _ _ _ fun d hd => by cases hd
theorem pure_pairs (g e : Nat) (M : List (By × By)) : Pure (.slice g e (M.map pairD)) := pure_lv ⟨g, e, M⟩
theorem pure_levR {l : List (By × By)} {d : D} (h : levR l d) : Pure d := by
  unfold levR at h
  split at h
  · subst h; exact pure_tup2 pure_nil1 (.val _)
  · obtain ⟨M, rfl, _⟩ := h
    exact pure_tup2 (pure_pairs _ _ _) (.val _)
theorem dnormal_spec (g e : Nat) (l : List (By × By)) (he : e = 35 ∨ l = []) (hl : l.length ≤ 12) (hne : l ≠ []) (hb : ∀ p ∈ l, p.1.length ≤ 100000 ∧ p.2.length ≤ 100000) (H : Heap) (hG : MaxIs H 0) :
    PCalls Tryz.prog 12 [.slice g e (l.map pairD)] H fun d H' => levR l d ∧ H' = H :=
  PCalls.liftMR (fun m => (PCalls.frozenR (n := 6) (dnormal_local m g e l he hl hne hb)).mono fun d H' q => normR_lev hl hne q) (fun d hd => by
    simp only [List.mem_cons, List.not_mem_nil, or_false] at hd
    subst hd
    exact pure_pairs _ _ _) (fun d hd => pure_levR hd) hG
theorem mapM_snoc {ε α β : Type} (f : α → Except ε β) : ∀ (l : List α) (x : α), (l ++ [x]).mapM f = (do let a ← l.mapM f; let b ← f x; pure (a ++ [b]))
  | [], x => by simp
  | y :: l, x => by
    rw [List.cons_append, List.mapM_cons, List.mapM_cons, mapM_snoc f l x]
    cases f y with
    | error e => rfl
    | ok a =>
      cases l.mapM f with
      | error e => rfl
      | ok b =>
        cases f x with
        | error e => rfl
        | ok c => rfl
theorem mapM_take {ε α β : Type} (f : α → Except ε β) {l : List α} {k : Nat} {x : α} (h : l[k]? = some x) : (l.take (k + 1)).mapM f = (do let a ← (l.take k).mapM f; let b ← f x; pure (a ++ [b])) := by
  rw [List.take_add_one, h]
  exact mapM_snoc f _ x
theorem mapM_err {ε α β : Type} (f : α → Except ε β) {l : List α} {k : Nat} {e : ε} (h : (l.take k).mapM f = .error e) : l.mapM f = .error e := by
  conv => lhs; rw [← List.take_append_drop k l]
  rw [List.mapM_append, h]
  rfl
theorem normS_err {acc : List (By × By)} {p : By × By} {e : Int} (h : normS acc p = .error e) : e = 13 ∨ e = 2 := by
  unfold normS at h
  split at h
  · split at h
    · cases h; exact .inr rfl
    · split at h
      · cases h; exact .inr rfl
      · cases h
  · cases h; exact .inl rfl
theorem fold_err : ∀ (l acc : List (By × By)) (e : Int), l.foldlM normS acc = .error e → e = 13 ∨ e = 2
  | [], acc, e, h => by cases h
  | p :: l, acc, e, h => by
    rw [List.foldlM_cons] at h
    cases hq : normS acc p with
    | error e2 => rw [hq] at h; cases h; exact normS_err hq
    | ok b => rw [hq] at h; exact fold_err l b e h
theorem levK_err {l : List (By × By)} {e : Int} (h : levK l = .error e) : e = 13 ∨ e = 2 := by
  unfold levK at h
  split at h
  · rename_i q; cases h; exact fold_err _ _ _ q
  · cases h
/-- Levels as they are held, so far. -/
structure Upto (n : List (List (By × By))) (k : Nat) (N : List Lv) : Prop where
  ok : (n.take k).mapM levK = .ok (N.map fun x => levT x.l)
  len : N.length = k
  at0 : ∀ x ∈ N, x.ok 35 ∧ LvB x.l
  g : ∀ x ∈ N, x.g = 0 ∧ x.e = 35
set_option maxHeartbeats 8000000 in
theorem dNormal_local (m : Int) (g e : Nat) (n : List Lv) (he : e = 37 ∨ n = []) (hn : n.length ≤ 2000) (ho : ∀ x ∈ n, x.ok 35 ∧ LvB x.l) :
    PCalls Tryz.prog 5 [.slice g e (n.map lvD)] (noHeap (maxG 0 m)) fun d _ => d = resD (normalM (n.map (·.l))) := by
  have hbig := dbig_spec g e n he (by omega)
  have hcon := conLev_spec 11 _ dNormal1_spec g e n he (by omega)
  have hdef : normalM (n.map (·.l)) = (if bigM n = true then .error 3 else if (n.any fun x => decide (x.l.length = 0)) then .error 11 else match (n.map (·.l)).mapM levK with
    | .error e => .error e
    | .ok L => if 1024 < (joinB 44 L).length then .error 3 else .ok (joinB 44 L)) := by
    unfold normalM bigM
    simp only [List.length_map, List.any_map, Function.comp_def]
    try rfl
  have lN : (n.map lvD).length = n.length := by simp
  have gN := fun k x (h : n[k]? = some x) => (show (n.map lvD)[k]? = some (lvD x) by rw [List.getElem?_map, h]; rfl)
  have kg := Hold.mk gN
  clear gN
  obtain ⟨X, hX⟩ : ∃ X, n.map lvD = X := ⟨_, rfl⟩
  rw [hX] at lN kg hbig hcon ⊢
  clear hX
  obtain ⟨R, hR⟩ : ∃ R, normalM (n.map (·.l)) = R := ⟨_, rfl⟩
  rw [hR] at hdef ⊢
  clear hR
  cases hb : bigM n with
  | true =>
    rw [hb] at hbig
    rw [hb, if_pos rfl] at hdef
    subst hdef
    unfold resD
    refine PCalls.of_pwp Tryz.call5 Tryz.func5 rfl (by simp [Tryz.ntmps5]) ?_
    rw [Tryz.ntmps5]
    refine W2 ?_
    refine PCalls.mono (hbig _) ?_
    intro d3 H3 hd3
    rw [hd3.1, hd3.2]
    clear hd3
    try simp [*]
    try simp [*]
    refine W2 ?_
    simp [*]
  | false =>
    rw [hb] at hbig
    rw [hb, if_neg (by decide)] at hdef
    have hsm : n.length ≤ 12 ∧ ∀ x ∈ n, x.l.length ≤ 4 := by
      unfold bigM at hb
      simp only [Bool.or_eq_false_iff, decide_eq_false_iff_not, List.any_eq_false, decide_eq_true_eq] at hb
      exact ⟨by omega, fun x hx => by have := hb.2 x hx; omega⟩
    cases hc : (n.any fun x => decide (x.l.length = 0)) with
    | true =>
      rw [hc] at hcon hdef
      rw [if_pos rfl] at hdef
      subst hdef
      unfold resD
      clear hc hb hsm
      refine PCalls.of_pwp Tryz.call5 Tryz.func5 rfl (by simp [Tryz.ntmps5]) ?_
      rw [Tryz.ntmps5]
      refine W2 ?_
      refine PCalls.mono (hbig _) ?_
      intro d3 H3 hd3
      rw [hd3.1, hd3.2]
      clear hd3
      try simp [*]
      try simp [*]
      refine W2 ?_
      refine PCalls.mono (hcon _) ?_
      intro d3 H3 hd3
      rw [hd3.1, hd3.2]
      clear hd3
      try simp [*]
      try simp [*]
      refine W2 ?_
      simp [*]
    | false =>
      rw [hc] at hcon hdef
      rw [if_neg (by decide)] at hdef
      have hpos : ∀ x ∈ n, x.l ≠ [] := fun x hx q => by
        rw [List.any_eq_false] at hc
        exact hc x hx (by rw [q]; rfl)
      have kd := Hold.mk hdef
      clear hdef hc hb
      refine PCalls.of_pwp Tryz.call5 Tryz.func5 rfl (by simp [Tryz.ntmps5]) ?_
      rw [Tryz.ntmps5]
      refine W2 ?_
      refine PCalls.mono (hbig _) ?_
      intro d3 H3 hd3
      rw [hd3.1, hd3.2]
      clear hd3
      try simp [*]
      try simp [*]
      refine W2 ?_
      refine PCalls.mono (hcon _) ?_
      intro d3 H3 hd3
      rw [hd3.1, hd3.2]
      clear hd3
      try simp [*]
      try simp [*]
      refine W2 ?_
      refine pwp_for (n.length) (fun k st => st.env.n = 41 ∧ st.df = [] ∧ st.env.get 16 = .slice g e X ∧ st.env.get 17 = .val (.int .i64 (n.length : Nat)) ∧ st.env.get 18 = .val (.int .i64 (k : Nat)) ∧ (st.H.G = maxG 0 m) ∧ (∃ N, Upto (n.map (·.l)) k N ∧ Grow st.H (st.env.get 4) 37 (N.map lvD))) ⟨by first | (simp; done) | (simp [*]; done), rfl, by first | (simp; done) | (simp [*]; done), by first | (simp; done) | (simp [*]; done), by first | (simp; done) | (simp [*]; done), ?_, ?_⟩ ?_ ?_
      · rfl
      · exact ⟨[], ⟨by simp; rfl, rfl, by simp, by simp⟩, by simpa using Grow.nil _ _⟩
      · rintro k ⟨E, Hx, df⟩ hk ⟨en, edf, e16, e17, e18, eP, eP1⟩
        simp only at en edf e16 e17 e18
        subst edf
        have hki : (k : Int) < ((n.length : Nat) : Int) := by omega
        have hkw := wrapSucc k (by omega)
        obtain ⟨N, hU, hG⟩ := eP1
        obtain ⟨d4, e4⟩ : ∃ d, E.get 4 = d := ⟨_, rfl⟩
        simp only [e4] at hG
        have hz : e = 37 := by rcases he with h | h; exact h; subst h; simp at hk
        subst hz
        obtain ⟨x, hx⟩ : ∃ x, n[k]? = some x := ⟨_, List.getElem?_eq_getElem hk⟩
        have x1 := kg.out k x hx
        have x2 : X.getD k .undef = lvD x := by rw [List.getD, x1]; rfl
        have x3 := get_of x1
        have hmem := List.mem_of_getElem? hx
        obtain ⟨xo, xb⟩ := ho x hmem
        have hS := dnormal_spec x.g x.e x.l xo (by have := hsm.2 x hmem; omega) (hpos x hmem) (fun p hp => ⟨by have := (xb.2 p hp).1; omega, (xb.2 p hp).2⟩) Hx ⟨m, by rw [eP, maxG, if_pos rfl]⟩
        have hxl : (n.map (·.l))[k]? = some x.l := by rw [List.getElem?_map, hx]; rfl
        have hs := mapM_take levK hxl
        rw [hU.ok] at hs
        have hbd : ((N.map lvD).length + 1) * 24 ≤ 140737488355328 := by have := hU.len; simp; omega
        unfold levR at hS
        obtain ⟨q, hq⟩ : ∃ q, levK x.l = q := ⟨_, rfl⟩
        rw [hq] at hS hs
        clear hx hmem hxl
        cases q with
        | error er =>
          have hf : (n.map (·.l)).mapM levK = .error er := mapM_err levK (k := k + 1) (by rw [hs]; rfl)
          have hRe : R = .error er := by rw [kd.out, hf]
          subst hRe
          unfold resD
          simp only at hS
          have her : ¬ er = 0 := by rcases levK_err hq with h | h <;> omega
          clear hs hf hU hG hq kd
          refine W2 ?_
          refine PCalls.mono hS ?_
          rintro d H' ⟨rfl, rfl⟩
          try simp [*]
          refine W2 ?_
          simp [*, resD]
        | ok t =>
          simp only at hS
          have kG := Hold.mk hG
          have kU := Hold.mk (And.intro hU hs)
          clear hG hU hs hq
          have hsl : ((N.map lvD).length + 1) * 24 ≤ 140737488355328 := hbd
          refine W2 ?_
          refine PCalls.mono hS ?_
          rintro d H' ⟨⟨M, rfl, hM, hMb⟩, rfl⟩
          have kM := Hold.mk (And.intro hM hMb)
          clear hM hMb hS
          try simp [*]
          refine W2 ?_
          refine oK_grow kG.out hbd ?_
          intro d5 H5 hG5 hn5 hg5 hf5
          clear hf5
          have hG6 : Grow H5 d5 37 ((N ++ [(⟨0, 35, M⟩ : Lv)]).map lvD) := by rw [List.map_append]; exact hG5
          have hU6 : Upto (n.map (·.l)) (k + 1) (N ++ [(⟨0, 35, M⟩ : Lv)]) := by
            obtain ⟨hU, hs⟩ := kU.out
            obtain ⟨hM, hMb⟩ := kM.out
            refine ⟨?_, by simp [hU.len], fun y hy => ?_, fun y hy => ?_⟩
            · rw [hs, ← hM]; simp; rfl
            · rcases List.mem_append.1 hy with hy | hy
              · exact hU.at0 y hy
              · simp at hy; subst hy; exact ⟨.inl rfl, hMb⟩
            · rcases List.mem_append.1 hy with hy | hy
              · exact hU.g y hy
              · simp at hy; subst hy; exact ⟨rfl, rfl⟩
          have kG6 := Hold.mk (And.intro hU6 hG6)
          have hg6 : H5.G = maxG 0 m := hg5.trans eP
          clear hG5 hG6 hU6 hg5
          try simp [*]
          refine W2 ?_
          simp [*, resD]
          exact ⟨_, kG6.out⟩
      · rintro ⟨E, Hx, df⟩ ⟨en, edf, e16, e17, e18, eP, eP1⟩
        simp only at en edf e16 e17 e18
        subst edf
        obtain ⟨N, hU, hG⟩ := eP1
        obtain ⟨d4, e4⟩ : ∃ d, E.get 4 = d := ⟨_, rfl⟩
        simp only [e4] at hG
        have hok := hU.ok
        rw [List.take_of_length_le (by simp)] at hok
        have hT : PCalls Tryz.prog 7 [d4] Hx fun d H' => d = sD (textN (N.map (·.l))) ∧ H' = Hx := by
          obtain ⟨g', e', h1, h2⟩ := frD_at' 37 lvD N
          refine PCalls.aside (k := 5) (ds' := [frD 37 (N.map lvD)]) ?_ (R := fun d => d = sD (textN (N.map (·.l)))) ?_ (fun d hd => by rw [hd]; rfl)
          · have f1 := Grow.fz (P := Tryz.prog) hG (n := 4) (fzi_map (fz_lv 1 Hx) N)
            simp [mapO, f1]
          · rw [h1]
            exact (dText_spec g' e' N h2 (by rw [hU.len]; exact hn) hU.at0 _).mono fun d H' q => q.1
        have hl := textN_len (n := N.map (·.l)) (by rw [List.length_map, hU.len]; exact hn) (fun l hl => by
          obtain ⟨x, hx, rfl⟩ := List.mem_map.1 hl
          exact (hU.at0 x hx).2)
        have htx : joinB 44 (N.map fun x => levT x.l) = textN (N.map (·.l)) := by
          unfold textN
          rw [List.map_map]; rfl
        have hdef := kd.out
        rw [hok] at hdef
        simp only [htx] at hdef
        obtain ⟨T, hTe⟩ : ∃ T, textN (N.map (·.l)) = T := ⟨_, rfl⟩
        rw [hTe] at hT hdef hl
        clear hok hU hG hTe htx kd
        by_cases h : 1024 < T.length
        · rw [if_pos h] at hdef
          subst hdef
          unfold resD
          have hi : (1024 : Int) < (T.length : Int) := by omega
          refine W2 ?_
          refine PCalls.mono (hT) ?_
          intro d3 H3 hd3
          rw [hd3.1, hd3.2]
          clear hd3
          try simp [*]
          try simp [*]
          refine W2 ?_
          simp [*, resD]
        · rw [if_neg h] at hdef
          subst hdef
          unfold resD
          have hi : ¬ (1024 : Int) < (T.length : Int) := by omega
          refine W2 ?_
          refine PCalls.mono (hT) ?_
          intro d3 H3 hd3
          rw [hd3.1, hd3.2]
          clear hd3
          try simp [*]
          try simp [*]
          refine W2 ?_
          simp [*, resD]
theorem pure_res (x : Except Int By) : Pure (resD x) := by
  unfold resD
  split <;> exact pure_tup2 (.val _) (.val _)
theorem dNormal_spec (g e : Nat) (n : List Lv) (he : e = 37 ∨ n = []) (hn : n.length ≤ 2000) (ho : ∀ x ∈ n, x.ok 35 ∧ LvB x.l) (H : Heap) (hG : MaxIs H 0) :
    PCalls Tryz.prog 5 [.slice g e (n.map lvD)] H fun d H' => d = resD (normalM (n.map (·.l))) ∧ H' = H :=
  PCalls.liftM (fun m => dNormal_local m g e n he hn ho) (fun d hd => by
    simp only [List.mem_cons, List.not_mem_nil, or_false] at hd
    subst hd
    exact pure_name _ _ _) (pure_res _) hG
end Go.Pv
