/- A part of the proof: functions of the program, walked, or what operations come to. -/
import Derived.Test.YtnmpinbfddjhmaaPvX6
import Derived.Test.YtnmpinbfddjhmaaPvP9
import Derived.Test.YtnmpinbfddjhmaaPvArgs5
import Derived.Test.YtnmpinbfddjhmaaPvAside
-- ZpvTameA ZpvDrawT
namespace Go.Pv
open Go.Proofs
attribute [-simp] eLen UInt8.ofNat_add



/-! ### The law ValueFinds, walked -/
attribute [local simp] optK
theorem one_finds : soughtM 7 [49, 32, 50] [49, 50] [] [] = (true, true) := by decide +kernel
theorem tmod_in (a : Int) (n : Nat) (hn : 0 < n) : 0 ≤ (a.tmod n + n).tmod n ∧ (a.tmod n + n).tmod n < n ∧ -(n : Int) < a.tmod n ∧ a.tmod n < n := by
  have h1 : -(n : Int) < a.tmod n ∧ a.tmod n < n := by
    have h := Int.tmod_lt_of_pos a (show (0 : Int) < (n : Int) by omega)
    have h2 := Int.lt_tmod_of_pos a (show (0 : Int) < (n : Int) by omega)
    exact ⟨h2, h⟩
  have h3 := Int.tmod_nonneg (n : Int) (show (0 : Int) ≤ a.tmod n + n by omega)
  have h4 := Int.tmod_lt_of_pos (a.tmod n + n) (show (0 : Int) < (n : Int) by omega)
  exact ⟨h3, h4, h1⟩
set_option maxHeartbeats 8000000 in
set_option maxRecDepth 100000 in
theorem finds_local (s : Int) (v0 : By) (at0 : Int) (m : Int) (hv : v0.length ≤ 140737488351232) : PCalls Try.prog 3 [.val (.int .i64 s), sD v0, .val (.int .i64 at0)] (noHeap (maxG 0 m)) fun d _ => d = .val (.bool true) := by
  refine PCalls.of_pwp Try.call3 Try.func3 rfl (by simp [Try.ntmps3]) ?_
  rw [Try.ntmps3]
  have hone := SoughtE_spec 7 [49, 32, 50] [49, 50] [] 1 0 [] (.inr rfl) (by decide) (by decide) (by decide) (by decide) (by decide)
  rw [one_finds] at hone
  simp only [partsE, twoB, List.map_nil] at hone
  have start : ∃ v : By, v.length ≤ 500 ∧ ((500 < (v0.length : Int) ∧ v = v0.take 500) ∨ (¬ 500 < (v0.length : Int) ∧ v = v0)) := by
    by_cases c : 500 < (v0.length : Int)
    · exact ⟨v0.take 500, by simp; omega, .inl ⟨c, rfl⟩⟩
    · exact ⟨v0, by omega, .inr ⟨c, rfl⟩⟩
  obtain ⟨v, hvl, hv2⟩ := start
  have g0 : (500 < (v0.length : Int)) → (500 : Int) ≤ (v0.length : Int) := fun h => by omega
  have hS : ∀ (f la : By) (g e : Nat) (bs : List By), (e = 9 ∨ bs = []) → f.length ≤ 90000 → la.length ≤ 90000 → (∀ b ∈ bs, b.length ≤ 90000) → bs.length ≤ 100000 → ∀ H, MaxIs H 0 → PCalls Try.prog 5 [.val (.int .i64 s), sD v, partsE f la g e bs] H fun d H' => d = twoB (soughtM s v f la bs) ∧ H' = H := fun f la g e bs he hf hla hbs hbl => SoughtE_spec s v f la g e bs he (by omega) hf hla hbs hbl
  have hKey := Key_spec s v (by omega)
  have hS0 := hS [] [] 1 0 [] (.inr rfl) (by decide) (by decide) (by decide) (by decide)
  have gS := fun f la bs => @sought_same s v [] [] f la [] bs
  have gO := @sought_ok s v [] [] []
  have gN := @finds_none s
  have gF := @finds_first s
  have gL := @finds_last s
  have gB := @finds_between s
  have gHk := @halves_key s
  have gH := @finds_halves s
  have gl := @hold_again s
  obtain ⟨⟨x, y⟩, hxy⟩ : ∃ x, soughtM s v [] [] [] = x := ⟨_, rfl⟩
  rw [hxy] at hS0 gS gO
  simp only [partsE, twoB, List.map_nil] at hS0
  simp only at gO gS
  have hb2 : (v0.length : Int) ≤ 140737488351232 := by omega
  obtain ⟨VV, hVV⟩ : ∃ V : By, V = v := ⟨_, rfl⟩
  rcases hv2 with ⟨c, rfl⟩ | ⟨c, rfl⟩
  case' inl =>
    have g1 := g0 c
  all_goals
    repeat (first | (with_reducible first | refine seq_k fun K hK => ?_ | refine pwp_block ?_ | refine pwp_skip ?_ | refine pwp_ret ?_ | refine pwp_exit ?_ | refine then_n ?_ | refine then_r ?_ | refine then_e ?_ | refine then_g ?_ | refine inB_n ?_ | refine inB_r ?_ | refine inB_e ?_ | refine inB_o rfl ?_ | refine inB_g ?_ | refine Leads.go (by assumption) ?_) | (with_reducible refine region_k fun K hK => ?_; simp [*]) | (with_reducible refine region_drawT_k mixedO (by decide +kernel) fun K hK => ?_; simp [*]) | (with_reducible refine region_tame_a mixedO (by decide +kernel) fun K hK => ?_; simp [*, Low, isLoadB, isTameB, List.range_succ, List.range']) | (with_reducible refine cond_t ?_ ?_; (focus (simp [*]; done))) | (with_reducible refine cond_f ?_ ?_; (focus (simp [*]; done))))
    refine PCalls.mono (hS0 _ (by exact maxG_is _ m rfl)) ?_
    intro d3 H3 hd3
    rw [hd3.1, hd3.2]
    clear hd3
    try simp [*]
    try simp [*]
    repeat (first | (with_reducible first | refine seq_k fun K hK => ?_ | refine pwp_block ?_ | refine pwp_skip ?_ | refine pwp_ret ?_ | refine pwp_exit ?_ | refine then_n ?_ | refine then_r ?_ | refine then_e ?_ | refine then_g ?_ | refine inB_n ?_ | refine inB_r ?_ | refine inB_e ?_ | refine inB_o rfl ?_ | refine inB_g ?_ | refine Leads.go (by assumption) ?_) | (with_reducible refine region_k fun K hK => ?_; simp [*]) | (with_reducible refine region_drawT_k mixedO (by decide +kernel) fun K hK => ?_; simp [*]) | (with_reducible refine region_tame_a mixedO (by decide +kernel) fun K hK => ?_; simp [*, Low, isLoadB, isTameB, List.range_succ, List.range']) | (with_reducible refine cond_t ?_ ?_; (focus (simp [*]; done))) | (with_reducible refine cond_f ?_ ?_; (focus (simp [*]; done))))
    refine PCalls.mono (hone _ (by exact maxG_is _ m rfl)) ?_
    intro d3 H3 hd3
    rw [hd3.1, hd3.2]
    clear hd3
    try simp [*]
    try simp [*]
    repeat (first | (with_reducible first | refine seq_k fun K hK => ?_ | refine pwp_block ?_ | refine pwp_skip ?_ | refine pwp_ret ?_ | refine pwp_exit ?_ | refine then_n ?_ | refine then_r ?_ | refine then_e ?_ | refine then_g ?_ | refine inB_n ?_ | refine inB_r ?_ | refine inB_e ?_ | refine inB_o rfl ?_ | refine inB_g ?_ | refine Leads.go (by assumption) ?_) | (with_reducible refine region_k fun K hK => ?_; simp [*]) | (with_reducible refine region_drawT_k mixedO (by decide +kernel) fun K hK => ?_; simp [*]) | (with_reducible refine region_tame_a mixedO (by decide +kernel) fun K hK => ?_; simp [*, Low, isLoadB, isTameB, List.range_succ, List.range']) | (with_reducible refine cond_t ?_ ?_; (focus (simp [*]; done))) | (with_reducible refine cond_f ?_ ?_; (focus (simp [*]; done))))
    cases y with
    | false =>
      try simp [*]
      repeat (first | (with_reducible first | refine seq_k fun K hK => ?_ | refine pwp_block ?_ | refine pwp_skip ?_ | refine pwp_ret ?_ | refine pwp_exit ?_ | refine then_n ?_ | refine then_r ?_ | refine then_e ?_ | refine then_g ?_ | refine inB_n ?_ | refine inB_r ?_ | refine inB_e ?_ | refine inB_o rfl ?_ | refine inB_g ?_ | refine Leads.go (by assumption) ?_) | (with_reducible refine region_k fun K hK => ?_; simp [*]) | (with_reducible refine region_drawT_k mixedO (by decide +kernel) fun K hK => ?_; simp [*]) | (with_reducible refine region_tame_a mixedO (by decide +kernel) fun K hK => ?_; simp [*, Low, isLoadB, isTameB, List.range_succ, List.range']) | (with_reducible refine cond_t ?_ ?_; (focus (simp [*]; done))) | (with_reducible refine cond_f ?_ ?_; (focus (simp [*]; done))))
      simp [*]
    | true =>
      obtain ⟨hs, k, hk⟩ := gO rfl
      have x1 := gN hs hk
      rw [hxy] at x1
      simp only at x1
      subst x1
      have hkl := (gl hs hk).2
      have hSa := hS k [] 1 0 [] (.inr rfl) (by omega) (by decide) (by decide) (by decide)
      have hSb := hS [] k 1 0 [] (.inr rfl) (by decide) (by omega) (by decide) (by decide)
      have hSc := hS [] [] 0 9 [k] (.inl rfl) (by decide) (by decide) (by simp; omega) (by simp)
      have hF := gF hs hk
      have hF2 := gS k [] [] rfl
      have hL := gL hs hk
      have hL2 := gS [] k [] rfl
      have hB := gB hs hk
      have hB2 := gS [] [] [k] rfl
      simp only [twoB, partsE, hF, hF2, hL, hL2, hB, hB2, List.map_nil, List.map_cons] at hSa hSb hSc
      have kS := Hold.mk hS
      have kH := Hold.mk (And.intro (@gH) (And.intro (fun n hn => gHk hs hk n hn) (And.intro hk hs)))
      have kS2 := Hold.mk gS
      simp only [hk, Option.getD_some, Option.isSome_some] at hKey
      clear gN gF gL gB gHk gH gO gl hF hF2 hL hL2 hB hB2 hS gS hxy hk hs hvl
      have hn0 : IntKind.i64.wrap ((k.length : Int) + 1) = ((k.length + 1 : Nat) : Int) := by rw [wrapI _ (by omega) (by omega)]; omega
      obtain ⟨n, hn⟩ : ∃ n, k.length + 1 = n := ⟨_, rfl⟩
      rw [hn] at hn0
      obtain ⟨a1, a2, a3, a4⟩ := tmod_in at0 n (by omega)
      have w2 := wrapI (at0.tmod n) (by omega) (by omega)
      have w3 := wrapI (at0.tmod n + n) (by omega) (by omega)
      have w4 := wrapI ((at0.tmod n + n).tmod n) (by omega) (by omega)
      have nz : ¬ (n : Int) = 0 := by omega
      have nz2 : ¬ n = 0 := by omega
      obtain ⟨A, hA⟩ : ∃ A : Nat, (at0.tmod n + n).tmod n = (A : Int) := ⟨((at0.tmod n + n).tmod n).toNat, by omega⟩
      rw [hA] at a1 a2 w4
      have hAk : A ≤ k.length := by omega
      try simp [*]
      repeat (first | (with_reducible first | refine seq_k fun K hK => ?_ | refine pwp_block ?_ | refine pwp_skip ?_ | refine pwp_ret ?_ | refine pwp_exit ?_ | refine then_n ?_ | refine then_r ?_ | refine then_e ?_ | refine then_g ?_ | refine inB_n ?_ | refine inB_r ?_ | refine inB_e ?_ | refine inB_o rfl ?_ | refine inB_g ?_ | refine Leads.go (by assumption) ?_) | (with_reducible refine region_k fun K hK => ?_; simp [*]) | (with_reducible refine region_drawT_k mixedO (by decide +kernel) fun K hK => ?_; simp [*]) | (with_reducible refine region_tame_a mixedO (by decide +kernel) fun K hK => ?_; simp [*, Low, isLoadB, isTameB, List.range_succ, List.range']) | (with_reducible refine cond_t ?_ ?_; (focus (simp [*]; done))) | (with_reducible refine cond_f ?_ ?_; (focus (simp [*]; done))))
      refine PCalls.mono (hS0 _ (by exact maxG_is _ m rfl)) ?_
      intro d3 H3 hd3
      rw [hd3.1, hd3.2]
      clear hd3
      try simp [*]
      try simp [*]
      repeat (first | (with_reducible first | refine seq_k fun K hK => ?_ | refine pwp_block ?_ | refine pwp_skip ?_ | refine pwp_ret ?_ | refine pwp_exit ?_ | refine then_n ?_ | refine then_r ?_ | refine then_e ?_ | refine then_g ?_ | refine inB_n ?_ | refine inB_r ?_ | refine inB_e ?_ | refine inB_o rfl ?_ | refine inB_g ?_ | refine Leads.go (by assumption) ?_) | (with_reducible refine region_k fun K hK => ?_; simp [*]) | (with_reducible refine region_drawT_k mixedO (by decide +kernel) fun K hK => ?_; simp [*]) | (with_reducible refine region_tame_a mixedO (by decide +kernel) fun K hK => ?_; simp [*, Low, isLoadB, isTameB, List.range_succ, List.range']) | (with_reducible refine cond_t ?_ ?_; (focus (simp [*]; done))) | (with_reducible refine cond_f ?_ ?_; (focus (simp [*]; done))))
      refine PCalls.mono (hKey _ (by exact maxG_is _ m rfl)) ?_
      intro d3 H3 hd3
      rw [hd3.1, hd3.2]
      clear hd3
      try simp [*]
      try simp [*]
      repeat (first | (with_reducible first | refine seq_k fun K hK => ?_ | refine pwp_block ?_ | refine pwp_skip ?_ | refine pwp_ret ?_ | refine pwp_exit ?_ | refine then_n ?_ | refine then_r ?_ | refine then_e ?_ | refine then_g ?_ | refine inB_n ?_ | refine inB_r ?_ | refine inB_e ?_ | refine inB_o rfl ?_ | refine inB_g ?_ | refine Leads.go (by assumption) ?_) | (with_reducible refine region_k fun K hK => ?_; simp [*]) | (with_reducible refine region_drawT_k mixedO (by decide +kernel) fun K hK => ?_; simp [*]) | (with_reducible refine region_tame_a mixedO (by decide +kernel) fun K hK => ?_; simp [*, Low, isLoadB, isTameB, List.range_succ, List.range']) | (with_reducible refine cond_t ?_ ?_; (focus (simp [*]; done))) | (with_reducible refine cond_f ?_ ?_; (focus (simp [*]; done))))
      refine PCalls.mono (hSa _ (by exact maxG_is _ m rfl)) ?_
      intro d3 H3 hd3
      rw [hd3.1, hd3.2]
      clear hd3
      try simp [*]
      try simp [*]
      repeat (first | (with_reducible first | refine seq_k fun K hK => ?_ | refine pwp_block ?_ | refine pwp_skip ?_ | refine pwp_ret ?_ | refine pwp_exit ?_ | refine then_n ?_ | refine then_r ?_ | refine then_e ?_ | refine then_g ?_ | refine inB_n ?_ | refine inB_r ?_ | refine inB_e ?_ | refine inB_o rfl ?_ | refine inB_g ?_ | refine Leads.go (by assumption) ?_) | (with_reducible refine region_k fun K hK => ?_; simp [*]) | (with_reducible refine region_drawT_k mixedO (by decide +kernel) fun K hK => ?_; simp [*]) | (with_reducible refine region_tame_a mixedO (by decide +kernel) fun K hK => ?_; simp [*, Low, isLoadB, isTameB, List.range_succ, List.range']) | (with_reducible refine cond_t ?_ ?_; (focus (simp [*]; done))) | (with_reducible refine cond_f ?_ ?_; (focus (simp [*]; done))))
      refine PCalls.mono (hSb _ (by exact maxG_is _ m rfl)) ?_
      intro d3 H3 hd3
      rw [hd3.1, hd3.2]
      clear hd3
      try simp [*]
      try simp [*]
      repeat (first | (with_reducible first | refine seq_k fun K hK => ?_ | refine pwp_block ?_ | refine pwp_skip ?_ | refine pwp_ret ?_ | refine pwp_exit ?_ | refine then_n ?_ | refine then_r ?_ | refine then_e ?_ | refine then_g ?_ | refine inB_n ?_ | refine inB_r ?_ | refine inB_e ?_ | refine inB_o rfl ?_ | refine inB_g ?_ | refine Leads.go (by assumption) ?_) | (with_reducible refine region_k fun K hK => ?_; simp [*]) | (with_reducible refine region_drawT_k mixedO (by decide +kernel) fun K hK => ?_; simp [*]) | (with_reducible refine region_tame_a mixedO (by decide +kernel) fun K hK => ?_; simp [*, Low, isLoadB, isTameB, List.range_succ, List.range']) | (with_reducible refine cond_t ?_ ?_; (focus (simp [*]; done))) | (with_reducible refine cond_f ?_ ?_; (focus (simp [*]; done))))
      refine PCalls.mono (PCalls.aside (k := 4) (R := fun d => d = .tup [.val (.bool true), .val (.bool true)]) (h := (hSc _ (by exact maxG_is _ m (by simp; rfl))).mono fun d H' h => h.1) (hf := ?_) (hr := fun d hd => by subst hd; rfl)) ?_
      · simp [mapO, fz, mapO]
      rintro d3 H3 ⟨rfl, rfl⟩
      try simp [*]
      repeat (first | (with_reducible first | refine seq_k fun K hK => ?_ | refine pwp_block ?_ | refine pwp_skip ?_ | refine pwp_ret ?_ | refine pwp_exit ?_ | refine then_n ?_ | refine then_r ?_ | refine then_e ?_ | refine then_g ?_ | refine inB_n ?_ | refine inB_r ?_ | refine inB_e ?_ | refine inB_o rfl ?_ | refine inB_g ?_ | refine Leads.go (by assumption) ?_) | (with_reducible refine region_k fun K hK => ?_; simp [*]) | (with_reducible refine region_drawT_k mixedO (by decide +kernel) fun K hK => ?_; simp [*]) | (with_reducible refine region_tame_a mixedO (by decide +kernel) fun K hK => ?_; simp [*, Low, isLoadB, isTameB, List.range_succ, List.range']) | (with_reducible refine cond_t ?_ ?_; (focus (simp [*]; done))) | (with_reducible refine cond_f ?_ ?_; (focus (simp [*]; done))))
      refine pwp_for (k.length) (fun j st => st.env.n = 138 ∧ st.df = [] ∧ st.env.get 0 = .val (.int .i64 s) ∧ st.env.get 1 = sD VV ∧ st.env.get 9 = .val (.bool true) ∧ st.env.get 10 = .val (.bool true) ∧ st.env.get 11 = .val (.bool true) ∧ st.env.get 13 = sD k ∧ st.env.get 15 = .val (.bool true) ∧ st.env.get 17 = .val (.bool true) ∧ st.env.get 19 = .val (.bool true) ∧ st.env.get 22 = .val (.int .i64 (j : Nat)) ∧ (MaxIs st.H 0 ∧ ∃ B : Nat, st.env.get 2 = .val (.int .i64 B) ∧ B ≤ k.length ∧ Hold (B = 0 ∨ ∀ x ∈ k.take j, x.toNat < 128))) ⟨by first | (simp; done) | (simp [*]; done), rfl, by first | (simp; done) | (simp [*]; done), by first | (simp; done) | (simp [*]; done), by first | (simp; done) | (simp [*]; done), by first | (simp; done) | (simp [*]; done), by first | (simp; done) | (simp [*]; done), by first | (simp; done) | (simp [*]; done), by first | (simp; done) | (simp [*]; done), by first | (simp; done) | (simp [*]; done), by first | (simp; done) | (simp [*]; done), by first | (simp; done) | (simp [*]; done), ?_⟩ ?_ ?_
      · exact ⟨maxG_is _ m (by simp; rfl), A, by simp, hAk, ⟨.inr (by simp)⟩⟩
      · rintro j ⟨E, Hx, df⟩ hj ⟨en, edf, e0, e1, e9, e10, e11, e13, e15, e17, e19, e22, eP⟩
        simp only at en edf e0 e1 e9 e10 e11 e13 e15 e17 e19 e22
        subst edf
        have hji : (j : Int) < ((k.length : Nat) : Int) := by omega
        have hjw := wrapSucc j (by omega)
        obtain ⟨eG, B, e2, hB, hP⟩ := eP
        simp only at e2 eG
        obtain ⟨c, hc⟩ : ∃ c, k[j]? = some c := ⟨_, List.getElem?_eq_getElem (by omega)⟩
        have bc : byteAt k j = (c.toNat : Int) := byteAt_of hc
        have lc := toNat_lt c
        have htk : k.take (j + 1) = k.take j ++ [c] := by rw [List.take_add_one, ‹k[j]? = some c›]; rfl
        by_cases hb : 127 < (c.toNat : Int)
        · repeat (first | (with_reducible first | refine seq_k fun K hK => ?_ | refine pwp_block ?_ | refine pwp_skip ?_ | refine pwp_ret ?_ | refine pwp_exit ?_ | refine then_n ?_ | refine then_r ?_ | refine then_e ?_ | refine then_g ?_ | refine inB_n ?_ | refine inB_r ?_ | refine inB_e ?_ | refine inB_o rfl ?_ | refine inB_g ?_ | refine Leads.go (by assumption) ?_) | (with_reducible refine region_k fun K hK => ?_; simp [*]) | (with_reducible refine region_drawT_k mixedO (by decide +kernel) fun K hK => ?_; simp [*]) | (with_reducible refine region_tame_a mixedO (by decide +kernel) fun K hK => ?_; simp [*, Low, isLoadB, isTameB, List.range_succ, List.range']) | (with_reducible refine cond_t ?_ ?_; (focus (simp [*]; done))) | (with_reducible refine cond_f ?_ ?_; (focus (simp [*]; done))))
          simp [*]
          exact ⟨0, rfl, by omega, ⟨.inl rfl⟩⟩
        · have hP2 : Hold (B = 0 ∨ ∀ x ∈ k.take (j + 1), x.toNat < 128) := ⟨by
            rcases hP.out with h | h
            · exact .inl h
            · right
              intro x hx
              rw [htk] at hx
              rcases List.mem_append.1 hx with hx | hx
              · exact h x hx
              · simp at hx; subst hx; omega⟩
          clear hP htk
          repeat (first | (with_reducible first | refine seq_k fun K hK => ?_ | refine pwp_block ?_ | refine pwp_skip ?_ | refine pwp_ret ?_ | refine pwp_exit ?_ | refine then_n ?_ | refine then_r ?_ | refine then_e ?_ | refine then_g ?_ | refine inB_n ?_ | refine inB_r ?_ | refine inB_e ?_ | refine inB_o rfl ?_ | refine inB_g ?_ | refine Leads.go (by assumption) ?_) | (with_reducible refine region_k fun K hK => ?_; simp [*]) | (with_reducible refine region_drawT_k mixedO (by decide +kernel) fun K hK => ?_; simp [*]) | (with_reducible refine region_tame_a mixedO (by decide +kernel) fun K hK => ?_; simp [*, Low, isLoadB, isTameB, List.range_succ, List.range']) | (with_reducible refine cond_t ?_ ?_; (focus (simp [*]; done))) | (with_reducible refine cond_f ?_ ?_; (focus (simp [*]; done))))
          refine ⟨by simp [*], rfl, by simp [*], by simp [*], by simp [*], by simp [*], by simp [*], by simp [*], by simp [*], by simp [*], by simp [*], by simp [*], eG, B, by simp [*], hB, hP2⟩
      · rintro ⟨E, Hx, df⟩ ⟨en, edf, e0, e1, e9, e10, e11, e13, e15, e17, e19, e22, eP⟩
        simp only at en edf e0 e1 e9 e10 e11 e13 e15 e17 e19 e22
        subst edf
        obtain ⟨eG, B, e2, hB, hP⟩ := eP
        simp only at e2 eG
        have hP2 := hP.out
        rw [List.take_length] at hP2
        obtain ⟨q1, q2, q3, q4⟩ := kH.out
        obtain ⟨r1, r2⟩ := q2 B hP2
        have hd1 := q1 q4 q3 r1 r2
        have hd2 := kS2.out (k.take B) (k.drop B) [] rfl
        have hSd := kS.out (k.take B) (k.drop B) 1 0 [] (.inr rfl) (by simp; omega) (by simp; omega) (by simp) (by simp)
        simp only [twoB, partsE, hd1, hd2, List.map_nil] at hSd
        have hBi : (B : Int) ≤ (k.length : Int) := by omega
        clear hP hP2 q1 q2 q3 q4 r1 r2 hd1 hd2 kH kS kS2
        repeat (first | (with_reducible first | refine seq_k fun K hK => ?_ | refine pwp_block ?_ | refine pwp_skip ?_ | refine pwp_ret ?_ | refine pwp_exit ?_ | refine then_n ?_ | refine then_r ?_ | refine then_e ?_ | refine then_g ?_ | refine inB_n ?_ | refine inB_r ?_ | refine inB_e ?_ | refine inB_o rfl ?_ | refine inB_g ?_ | refine Leads.go (by assumption) ?_) | (with_reducible refine region_k fun K hK => ?_; simp [*]) | (with_reducible refine region_drawT_k mixedO (by decide +kernel) fun K hK => ?_; simp [*]) | (with_reducible refine region_tame_a mixedO (by decide +kernel) fun K hK => ?_; simp [*, Low, isLoadB, isTameB, List.range_succ, List.range']) | (with_reducible refine cond_t ?_ ?_; (focus (simp [*]; done))) | (with_reducible refine cond_f ?_ ?_; (focus (simp [*]; done))))
        refine PCalls.mono (hSd _ eG) ?_
        intro d3 H3 hd3
        rw [hd3.1, hd3.2]
        clear hd3
        try simp [*]
        try simp [*]
        repeat (first | (with_reducible first | refine seq_k fun K hK => ?_ | refine pwp_block ?_ | refine pwp_skip ?_ | refine pwp_ret ?_ | refine pwp_exit ?_ | refine then_n ?_ | refine then_r ?_ | refine then_e ?_ | refine then_g ?_ | refine inB_n ?_ | refine inB_r ?_ | refine inB_e ?_ | refine inB_o rfl ?_ | refine inB_g ?_ | refine Leads.go (by assumption) ?_) | (with_reducible refine region_k fun K hK => ?_; simp [*]) | (with_reducible refine region_drawT_k mixedO (by decide +kernel) fun K hK => ?_; simp [*]) | (with_reducible refine region_tame_a mixedO (by decide +kernel) fun K hK => ?_; simp [*, Low, isLoadB, isTameB, List.range_succ, List.range']) | (with_reducible refine cond_t ?_ ?_; (focus (simp [*]; done))) | (with_reducible refine cond_f ?_ ?_; (focus (simp [*]; done))))
        simp [*]
set_option maxRecDepth 100000 in
theorem ValueFinds_walk (m : Int) (c0 : List D) (h0 : OkC Try.prog 9 3 c0) (c1 : List D) (h1 : OkC Try.prog 9 9 c1) (c2 : List D) (h2 : OkC Try.prog 9 3 c2) :
    PCalls Try.prog 3 [elemOf Try.prog 3 c0, elemOf Try.prog 9 c1, elemOf Try.prog 3 c2] (noHeap (maxG 0 m)) fun d _ => d = .val (.bool true) := by
  obtain ⟨s, rfl⟩ := int_of Try.underlying3 h0
  obtain ⟨v, hv, rfl⟩ := str_of Try.underlying9 h1
  obtain ⟨a, rfl⟩ := int_of Try.underlying3 h2
  have e0 : ∀ x : Int, elemOf Try.prog 3 [.val (.int .i64 x)] = .val (.int .i64 x) := fun x => by unfold elemOf; rw [Try.underlying3]; rfl
  have es : elemOf Try.prog 9 [sD v] = sD v := by unfold elemOf; rw [Try.underlying9]; rfl
  rw [e0, e0, es]
  exact finds_local s v a m hv
end Go.Pv
