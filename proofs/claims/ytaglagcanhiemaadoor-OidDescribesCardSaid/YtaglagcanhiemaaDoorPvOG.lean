/- A part of the proof: functions of the program, walked, or what operations come to. -/
import Derived.Test.YtaglagcanhiemaaDoorPvOE
import Derived.Test.YtaglagcanhiemaaDoorPvUniq
import Derived.Test.YtaglagcanhiemaaDoorPvOrd2
import Derived.Sort.Walk0
-- ZpvTameA ZpvDrawT
namespace Go.Pv
open Go.Proofs
attribute [-simp] eLen UInt8.ofNat_add

/-! ### Rows of texts: held against each other, sorted, joined -/
theorem frD_at (e : Nat) (L : List By) : ∃ g e', frD e (L.map sD) = .slice g e' (L.map sD) ∧ (e' = e ∨ L = []) := by
  unfold frD
  by_cases h : L = []
  · subst h; exact ⟨1, 0, rfl, .inr rfl⟩
  · rw [if_neg (by simpa using h)]; exact ⟨0, e, rfl, .inl rfl⟩
theorem list_ne_at {A B : List By} {k : Nat} {x y : By} (h1 : A[k]? = some x) (h2 : B[k]? = some y) (h : x ≠ y) : A ≠ B := by
  rintro rfl; rw [h1] at h2; exact h (Option.some.inj h2)
set_option maxHeartbeats 4000000 in
set_option maxRecDepth 100000 in
theorem same_spec (g1 t1 g2 t2 : Nat) (A B : List By) (h1 : t1 = 9 ∨ A = []) (h2 : t2 = 9 ∨ B = []) (hA : A.length ≤ 100000) (H : Heap) :
    PCalls Tryd.prog 18 [.slice g1 t1 (A.map sD), .slice g2 t2 (B.map sD)] H fun d H' => d = .val (.bool (decide (A = B))) ∧ H' = H := by
  refine PCalls.of_pwp Tryd.call18 Tryd.func18 rfl (by simp [Tryd.ntmps18]) ?_
  rw [Tryd.ntmps18]
  have l1 : (A.map sD).length = A.length := by simp
  have l2 : (B.map sD).length = B.length := by simp
  have gA := fun k x (h : A[k]? = some x) => (show (A.map sD)[k]? = some (sD x) by rw [List.getElem?_map, h]; rfl)
  have gB := fun k x (h : B[k]? = some x) => (show (B.map sD)[k]? = some (sD x) by rw [List.getElem?_map, h]; rfl)
  have kg := Hold.mk (And.intro gA gB)
  clear gA gB
  obtain ⟨X, hX⟩ : ∃ X, A.map sD = X := ⟨_, rfl⟩
  obtain ⟨Y, hY⟩ : ∃ Y, B.map sD = Y := ⟨_, rfl⟩
  rw [hX] at l1
  rw [hY] at l2
  rw [hX, hY] at kg ⊢
  clear hX hY
  by_cases hl : A.length = B.length
  case neg =>
    have hne : ¬ A = B := fun q => hl (by rw [q])
    have hli : ¬ (A.length : Int) = (B.length : Int) := by omega
    repeat (first | with_reducible refine seq_k fun K hK => ?_ | (with_reducible refine region_k fun K hK => ?_; simp [*]) | (with_reducible refine region_drawT_k mixedO (by decide +kernel) fun K hK => ?_; simp [*]) | (with_reducible refine region_tame_a mixedO (by decide +kernel) fun K hK => ?_; simp [*, Low, isLoadB, isTameB, List.range_succ, List.range']) | with_reducible refine pwp_block ?_ | with_reducible refine pwp_skip ?_ | with_reducible refine pwp_ret ?_ | with_reducible refine pwp_exit ?_ | (with_reducible refine cond_t ?_ ?_; (focus (simp [*]; done))) | (with_reducible refine cond_f ?_ ?_; (focus (simp [*]; done))) | with_reducible refine then_n ?_ | with_reducible refine then_r ?_ | with_reducible refine then_e ?_ | with_reducible refine then_g ?_ | with_reducible refine inB_n ?_ | with_reducible refine inB_r ?_ | with_reducible refine inB_e ?_ | with_reducible refine inB_o rfl ?_ | with_reducible refine inB_g ?_ | with_reducible refine Leads.go (by assumption) ?_)
    simp [*]
  repeat (first | with_reducible refine seq_k fun K hK => ?_ | (with_reducible refine region_k fun K hK => ?_; simp [*]) | (with_reducible refine region_drawT_k mixedO (by decide +kernel) fun K hK => ?_; simp [*]) | (with_reducible refine region_tame_a mixedO (by decide +kernel) fun K hK => ?_; simp [*, Low, isLoadB, isTameB, List.range_succ, List.range']) | with_reducible refine pwp_block ?_ | with_reducible refine pwp_skip ?_ | with_reducible refine pwp_ret ?_ | with_reducible refine pwp_exit ?_ | (with_reducible refine cond_t ?_ ?_; (focus (simp [*]; done))) | (with_reducible refine cond_f ?_ ?_; (focus (simp [*]; done))) | with_reducible refine then_n ?_ | with_reducible refine then_r ?_ | with_reducible refine then_e ?_ | with_reducible refine then_g ?_ | with_reducible refine inB_n ?_ | with_reducible refine inB_r ?_ | with_reducible refine inB_e ?_ | with_reducible refine inB_o rfl ?_ | with_reducible refine inB_g ?_ | with_reducible refine Leads.go (by assumption) ?_)
  refine pwp_for (A.length) (fun k st => st.env.n = 26 ∧ st.df = [] ∧ st.H = H ∧ st.env.get 0 = .slice g1 t1 X ∧ st.env.get 1 = .slice g2 t2 Y ∧ st.env.get 5 = .val (.int .i64 (k : Nat)) ∧ (A.take k = B.take k)) ⟨by first | (simp; done) | (simp [*]; done), rfl, by first | rfl | simp, by first | (simp; done) | (simp [*]; done), by first | (simp; done) | (simp [*]; done), by first | (simp; done) | (simp [*]; done), by first | (simp; done) | (simp [*]; done)⟩ ?_ ?_
  · rintro k ⟨E, Hx, df⟩ hk ⟨en, edf, eH, e0, e1, e5, eP⟩
    simp only at en edf eH e0 e1 e5
    subst edf; replace eH := eH.symm; subst eH
    have hki : (k : Int) < ((A.length : Nat) : Int) := by omega
    have hkw := wrapSucc k (by omega)
    have hz1 : t1 = 9 := by rcases h1 with h | h; exact h; subst h; simp at hk
    have hkb : (k : Int) < (B.length : Int) := by omega
    have hz2 : t2 = 9 := by rcases h2 with h | h; exact h; subst h; simp at hl; subst hl; simp at hk
    subst hz1; subst hz2
    obtain ⟨x, hx⟩ : ∃ x, A[k]? = some x := ⟨_, List.getElem?_eq_getElem hk⟩
    obtain ⟨y, hy⟩ : ∃ y, B[k]? = some y := ⟨_, List.getElem?_eq_getElem (by omega)⟩
    have x1 := kg.out.1 k x hx
    have y1 := kg.out.2 k y hy
    have x2 : X.getD k .undef = sD x := by rw [List.getD, x1]; rfl
    have y2 : Y.getD k .undef = sD y := by rw [List.getD, y1]; rfl
    have x3 := get_of x1
    have y3 := get_of y1
    simp only [sD] at x1 y1 x2 y2 x3 y3
    by_cases hxy : x = y
    · subst hxy
      have ht : A.take (k + 1) = B.take (k + 1) := by rw [List.take_add_one, List.take_add_one, hx, hy, eP]
      have kt := Hold.mk ht
      clear ht eP hx hy
      repeat (first | with_reducible refine seq_k fun K hK => ?_ | (with_reducible refine region_k fun K hK => ?_; simp [*]) | (with_reducible refine region_drawT_k mixedO (by decide +kernel) fun K hK => ?_; simp [*]) | (with_reducible refine region_tame_a mixedO (by decide +kernel) fun K hK => ?_; simp [*, Low, isLoadB, isTameB, List.range_succ, List.range']) | with_reducible refine pwp_block ?_ | with_reducible refine pwp_skip ?_ | with_reducible refine pwp_ret ?_ | with_reducible refine pwp_exit ?_ | (with_reducible refine cond_t ?_ ?_; (focus (simp [*]; done))) | (with_reducible refine cond_f ?_ ?_; (focus (simp [*]; done))) | with_reducible refine then_n ?_ | with_reducible refine then_r ?_ | with_reducible refine then_e ?_ | with_reducible refine then_g ?_ | with_reducible refine inB_n ?_ | with_reducible refine inB_r ?_ | with_reducible refine inB_e ?_ | with_reducible refine inB_o rfl ?_ | with_reducible refine inB_g ?_ | with_reducible refine Leads.go (by assumption) ?_)
      simp [*]
      exact kt.out
    · have hne := list_ne_at hx hy hxy
      clear eP hx hy
      repeat (first | with_reducible refine seq_k fun K hK => ?_ | (with_reducible refine region_k fun K hK => ?_; simp [*]) | (with_reducible refine region_drawT_k mixedO (by decide +kernel) fun K hK => ?_; simp [*]) | (with_reducible refine region_tame_a mixedO (by decide +kernel) fun K hK => ?_; simp [*, Low, isLoadB, isTameB, List.range_succ, List.range']) | with_reducible refine pwp_block ?_ | with_reducible refine pwp_skip ?_ | with_reducible refine pwp_ret ?_ | with_reducible refine pwp_exit ?_ | (with_reducible refine cond_t ?_ ?_; (focus (simp [*]; done))) | (with_reducible refine cond_f ?_ ?_; (focus (simp [*]; done))) | with_reducible refine then_n ?_ | with_reducible refine then_r ?_ | with_reducible refine then_e ?_ | with_reducible refine then_g ?_ | with_reducible refine inB_n ?_ | with_reducible refine inB_r ?_ | with_reducible refine inB_e ?_ | with_reducible refine inB_o rfl ?_ | with_reducible refine inB_g ?_ | with_reducible refine Leads.go (by assumption) ?_)
      simp [*]
  · rintro ⟨E, Hx, df⟩ ⟨en, edf, eH, e0, e1, e5, eP⟩
    simp only at en edf eH e0 e1 e5
    subst edf; replace eH := eH.symm; subst eH
    have he : A = B := by
      rw [List.take_length] at eP
      rw [eP, hl, List.take_length]
    clear eP
    repeat (first | with_reducible refine seq_k fun K hK => ?_ | (with_reducible refine region_k fun K hK => ?_; simp [*]) | (with_reducible refine region_drawT_k mixedO (by decide +kernel) fun K hK => ?_; simp [*]) | (with_reducible refine region_tame_a mixedO (by decide +kernel) fun K hK => ?_; simp [*, Low, isLoadB, isTameB, List.range_succ, List.range']) | with_reducible refine pwp_block ?_ | with_reducible refine pwp_skip ?_ | with_reducible refine pwp_ret ?_ | with_reducible refine pwp_exit ?_ | (with_reducible refine cond_t ?_ ?_; (focus (simp [*]; done))) | (with_reducible refine cond_f ?_ ?_; (focus (simp [*]; done))) | with_reducible refine then_n ?_ | with_reducible refine then_r ?_ | with_reducible refine then_e ?_ | with_reducible refine then_g ?_ | with_reducible refine inB_n ?_ | with_reducible refine inB_r ?_ | with_reducible refine inB_e ?_ | with_reducible refine inB_o rfl ?_ | with_reducible refine inB_g ?_ | with_reducible refine Leads.go (by assumption) ?_)
    simp [*]
theorem Sort_spec (d0 : D) (L : List By) (hL : L.length ≤ 100000) (H : Heap) (hG : Grow H d0 9 (L.map sD)) : PCalls Tryd.prog 35 [d0] H fun r H' => Grow H' d0 9 ((sortB' L).map sD) ∧ H'.nx = H.nx ∧ H'.G = H.G ∧ ∀ j, NotIt d0 j → H'.get j = H.get j := by
  have hsl : (sortB' L).length = L.length := by simp [sortB']
  rcases hG with ⟨h, rfl⟩ | ⟨i, hi, rfl, hgi, hn⟩
  · have : L = [] := by simpa using h
    subst this
    intro base w0 Γ w args hR hA
    obtain ⟨v1, rfl, r1⟩ := repAll1 hA
    have hv : ∃ a c, v1 = .slice a 0 c := by
      cases r1 with
      | nil => exact ⟨none, 0, rfl⟩
      | slice _ _ _ a ad cap vs hg => exact absurd rfl hg
    obtain ⟨a, c, rfl⟩ := hv
    rw [Tryd.call35]
    refine Calls.mono (Tryd.slices_Sort_string_none a c w) ?_
    rintro e w' ⟨rfl, rfl⟩
    exact ⟨_, rfl, Γ, H, .val _, .refl Γ, hR, .val _, .inl ⟨by simp [sortB'], rfl⟩, rfl, rfl, fun j _ => rfl⟩
  · rw [List.length_map]
    intro base w0 Γ w args hR hA
    obtain ⟨v1, rfl, r1⟩ := repAll1 hA
    cases r1 with
    | row _ _ _ _ x hb he hc hm =>
      obtain ⟨hb1, hlt, _, _, k3, _⟩ := hR.objAt hgi hb
      have hH := holds_row (m := []) encStr hR (l := L) (by rw [List.append_nil]; exact hgi) hb (fun d hd => by cases hd)
      rw [Tryd.call35]
      have hS := Tryd.slices_Sort_string x.b x.o (x.cap - 0) L w hH hlt (by omega)
      rw [Nat.zero_mul, Nat.add_zero]
      refine Calls.mono hS ?_
      rintro e w' ⟨rfl, n, os, rfl⟩
      refine ⟨.tuple #[], rfl, Γ, _, .val _, .refl Γ, rel_putRow encStr (fun a => rfl) hR sz9 hgi hb (l' := sortB' L) hsl n os, .val _, ?_, rfl, rfl, fun j hj => Heap.put_ne _ _ (fun q => hj 9 0 L.length (by rw [q]))⟩
      refine .inr ⟨i, hi, by rw [List.length_map, hsl], ?_, ?_⟩
      · rw [Heap.put_same]; rfl
      · intro q
        have := congrArg List.length q
        rw [List.length_map, hsl] at this
        exact hn (List.eq_nil_of_length_eq_zero (by rw [List.length_map]; exact this))
/-! ### Text -/
@[simp] theorem joinB_one (c : UInt8) (b : By) : joinB c [b] = b := rfl
theorem joinB_take_len (c : UInt8) (b : By) (L : List By) : ∀ k, (joinB c (b :: L.take k)).length ≤ (joinB c (b :: L)).length := by
  induction L generalizing b with
  | nil => intro k; simp
  | cons a L ih =>
    intro k
    cases k with
    | zero => rw [List.take_zero, joinB_cons c b (a :: L) (by simp)]; simp [joinB]
    | succ k =>
      rw [List.take_succ_cons, joinB_cons c b _ (by simp), joinB_cons c b _ (by simp)]
      have := ih a k
      simp; omega
set_option maxHeartbeats 4000000 in
set_option maxRecDepth 100000 in
theorem Text_local (b : By) (g e : Nat) (L : List By) (h1 : e = 9 ∨ L = []) (hL : L.length ≤ 90000) (hl : (joinB 59 (b :: L)).length ≤ 100000) : PCalls Tryd.prog 19 [sD b, .slice g e (L.map sD)] (noHeap noG) fun d _ => d = sD (joinB 59 (b :: L)) := by
  refine PCalls.of_pwp Tryd.call19 Tryd.func19 rfl (by simp [Tryd.ntmps19]) ?_
  rw [Tryd.ntmps19]
  by_cases hz : L = []
  · subst hz
    have hJ := Join_spec (.row 0 9 0 1) [b] 59 ((noHeap noG).new (.row 9 [sD b])) (Grow.one _) (by simp) (by simpa [joinB] using Nat.le_trans hl (by decide))
    repeat (first | with_reducible refine seq_k fun K hK => ?_ | (with_reducible refine region_k fun K hK => ?_; simp [*]) | (with_reducible refine region_drawT_k mixedO (by decide +kernel) fun K hK => ?_; simp [*]) | (with_reducible refine region_tame_a mixedO (by decide +kernel) fun K hK => ?_; simp [*, Low, isLoadB, isTameB, List.range_succ, List.range']) | with_reducible refine pwp_block ?_ | with_reducible refine pwp_skip ?_ | with_reducible refine pwp_ret ?_ | with_reducible refine pwp_exit ?_ | (with_reducible refine cond_t ?_ ?_; (focus (simp [*]; done))) | (with_reducible refine cond_f ?_ ?_; (focus (simp [*]; done))) | with_reducible refine then_n ?_ | with_reducible refine then_r ?_ | with_reducible refine then_e ?_ | with_reducible refine then_g ?_ | with_reducible refine inB_n ?_ | with_reducible refine inB_r ?_ | with_reducible refine inB_e ?_ | with_reducible refine inB_o rfl ?_ | with_reducible refine inB_g ?_ | with_reducible refine Leads.go (by assumption) ?_)
    simp [appK, isSliceD]
    refine PCalls.mono (hJ) ?_
    intro d3 H3 hd3
    rw [hd3.1, hd3.2]
    clear hd3
    try simp [*]
    repeat (first | with_reducible refine seq_k fun K hK => ?_ | (with_reducible refine region_k fun K hK => ?_; simp [*]) | (with_reducible refine region_drawT_k mixedO (by decide +kernel) fun K hK => ?_; simp [*]) | (with_reducible refine region_tame_a mixedO (by decide +kernel) fun K hK => ?_; simp [*, Low, isLoadB, isTameB, List.range_succ, List.range']) | with_reducible refine pwp_block ?_ | with_reducible refine pwp_skip ?_ | with_reducible refine pwp_ret ?_ | with_reducible refine pwp_exit ?_ | (with_reducible refine cond_t ?_ ?_; (focus (simp [*]; done))) | (with_reducible refine cond_f ?_ ?_; (focus (simp [*]; done))) | with_reducible refine then_n ?_ | with_reducible refine then_r ?_ | with_reducible refine then_e ?_ | with_reducible refine then_g ?_ | with_reducible refine inB_n ?_ | with_reducible refine inB_r ?_ | with_reducible refine inB_e ?_ | with_reducible refine inB_o rfl ?_ | with_reducible refine inB_g ?_ | with_reducible refine Leads.go (by assumption) ?_)
    simp [*]
  · have hz1 : e = 9 := by rcases h1 with h | h; exact h; exact absurd h hz
    subst hz1
    have hlm : (L.map sD).length = L.length := by simp
    have hne : ¬ L = [] := hz
    have g1 := @Grow.one (noHeap noG) 9 (sD b)
    simp only [sD] at g1
    repeat (first | with_reducible refine seq_k fun K hK => ?_ | (with_reducible refine region_k fun K hK => ?_; simp [*]) | (with_reducible refine region_drawT_k mixedO (by decide +kernel) fun K hK => ?_; simp [*]) | (with_reducible refine region_tame_a mixedO (by decide +kernel) fun K hK => ?_; simp [*, Low, isLoadB, isTameB, List.range_succ, List.range']) | with_reducible refine pwp_block ?_ | with_reducible refine pwp_skip ?_ | with_reducible refine pwp_ret ?_ | with_reducible refine pwp_exit ?_ | (with_reducible refine cond_t ?_ ?_; (focus (simp [*]; done))) | (with_reducible refine cond_f ?_ ?_; (focus (simp [*]; done))) | with_reducible refine then_n ?_ | with_reducible refine then_r ?_ | with_reducible refine then_e ?_ | with_reducible refine then_g ?_ | with_reducible refine inB_n ?_ | with_reducible refine inB_r ?_ | with_reducible refine inB_e ?_ | with_reducible refine inB_o rfl ?_ | with_reducible refine inB_g ?_ | with_reducible refine Leads.go (by assumption) ?_)
    refine oK_app g1 ?_ ?_ ?_
    · simp [*]
    · first | (simp; done) | (simp; omega) | omega
    intro d2 H2 hG2 hn2 hH2 hf2
    try simp [*]
    have hG3 : Grow H2 d2 9 ((b :: L).map sD) := hG2
    have hJ := Join_spec d2 (b :: L) 59 H2 hG3 (by simp; omega) (Nat.le_trans hl (by decide))
    clear hf2 hG2 hG3
    refine PCalls.mono (hJ) ?_
    intro d3 H3 hd3
    rw [hd3.1, hd3.2]
    clear hd3
    try simp [*]
    repeat (first | with_reducible refine seq_k fun K hK => ?_ | (with_reducible refine region_k fun K hK => ?_; simp [*]) | (with_reducible refine region_drawT_k mixedO (by decide +kernel) fun K hK => ?_; simp [*]) | (with_reducible refine region_tame_a mixedO (by decide +kernel) fun K hK => ?_; simp [*, Low, isLoadB, isTameB, List.range_succ, List.range']) | with_reducible refine pwp_block ?_ | with_reducible refine pwp_skip ?_ | with_reducible refine pwp_ret ?_ | with_reducible refine pwp_exit ?_ | (with_reducible refine cond_t ?_ ?_; (focus (simp [*]; done))) | (with_reducible refine cond_f ?_ ?_; (focus (simp [*]; done))) | with_reducible refine then_n ?_ | with_reducible refine then_r ?_ | with_reducible refine then_e ?_ | with_reducible refine then_g ?_ | with_reducible refine inB_n ?_ | with_reducible refine inB_r ?_ | with_reducible refine inB_e ?_ | with_reducible refine inB_o rfl ?_ | with_reducible refine inB_g ?_ | with_reducible refine Leads.go (by assumption) ?_)
    simp [*]
theorem Text_spec (b : By) (g e : Nat) (L : List By) (h1 : e = 9 ∨ L = []) (hL : L.length ≤ 90000) (hl : (joinB 59 (b :: L)).length ≤ 100000) (H : Heap) : PCalls Tryd.prog 19 [sD b, .slice g e (L.map sD)] H fun d H' => d = sD (joinB 59 (b :: L)) ∧ H' = H :=
  PCalls.liftG (Text_local b g e L h1 hL hl) (fun d hd => by
    simp only [List.mem_cons, List.mem_nil_iff, or_false] at hd
    rcases hd with rfl | rfl
    · exact .val _
    · exact pure_strs _ _ _) (.val _) H
set_option maxHeartbeats 4000000 in
set_option maxRecDepth 100000 in
theorem rText_spec (b : By) (g e : Nat) (L : List By) (h1 : e = 9 ∨ L = []) (hL : L.length ≤ 90000) (hl : (joinB 59 (b :: L)).length ≤ 100000) (H : Heap) : PCalls Tryd.prog 20 [sD b, .slice g e (L.map sD)] H fun d H' => d = sD (joinB 59 (b :: L)) ∧ H' = H := by
  refine PCalls.of_pwp Tryd.call20 Tryd.func20 rfl (by simp [Tryd.ntmps20]) ?_
  rw [Tryd.ntmps20]
  have hlm : (L.map sD).length = L.length := by simp
  have gL := fun k x (h : L[k]? = some x) => (show (L.map sD)[k]? = some (sD x) by rw [List.getElem?_map, h]; rfl)
  have kg := Hold.mk gL
  clear gL
  obtain ⟨X, hX⟩ : ∃ X, L.map sD = X := ⟨_, rfl⟩
  rw [hX] at hlm kg ⊢
  clear hX
  repeat (first | with_reducible refine seq_k fun K hK => ?_ | (with_reducible refine region_k fun K hK => ?_; simp [*]) | (with_reducible refine region_drawT_k mixedO (by decide +kernel) fun K hK => ?_; simp [*]) | (with_reducible refine region_tame_a mixedO (by decide +kernel) fun K hK => ?_; simp [*, Low, isLoadB, isTameB, List.range_succ, List.range']) | with_reducible refine pwp_block ?_ | with_reducible refine pwp_skip ?_ | with_reducible refine pwp_ret ?_ | with_reducible refine pwp_exit ?_ | (with_reducible refine cond_t ?_ ?_; (focus (simp [*]; done))) | (with_reducible refine cond_f ?_ ?_; (focus (simp [*]; done))) | with_reducible refine then_n ?_ | with_reducible refine then_r ?_ | with_reducible refine then_e ?_ | with_reducible refine then_g ?_ | with_reducible refine inB_n ?_ | with_reducible refine inB_r ?_ | with_reducible refine inB_e ?_ | with_reducible refine inB_o rfl ?_ | with_reducible refine inB_g ?_ | with_reducible refine Leads.go (by assumption) ?_)
  refine pwp_for (L.length) (fun k st => st.env.n = 20 ∧ st.df = [] ∧ st.H = H ∧ st.env.get 1 = .slice g e X ∧ st.env.get 5 = .val (.int .i64 (k : Nat)) ∧ st.env.get 0 = sD (joinB 59 (b :: L.take k))) ⟨by first | (simp; done) | (simp [*]; done), rfl, by first | rfl | simp, by first | (simp; done) | (simp [*]; done), by first | (simp; done) | (simp [*]; done), by first | (simp; done) | (simp [*]; done)⟩ ?_ ?_
  · rintro k ⟨E, Hx, df⟩ hk ⟨en, edf, eH, e1, e5, e0⟩
    simp only at en edf eH e1 e5 e0
    subst edf; replace eH := eH.symm; subst eH
    have hki : (k : Int) < ((L.length : Nat) : Int) := by omega
    have hkw := wrapSucc k (by omega)
    have hz1 : e = 9 := by rcases h1 with h | h; exact h; subst h; simp at hk
    subst hz1
    obtain ⟨x, hx⟩ : ∃ x, L[k]? = some x := ⟨_, List.getElem?_eq_getElem hk⟩
    have x1 := kg.out k x hx
    have x2 : X.getD k .undef = sD x := by rw [List.getD, x1]; rfl
    have x3 := get_of x1
    simp only [sD] at x1 x2 x3
    have ht : joinB 59 (b :: L.take (k + 1)) = joinB 59 (b :: L.take k) ++ 59 :: x := by
      rw [List.take_add_one, hx]; exact joinB_snoc 59 (b :: L.take k) x (by simp)
    have hb1 := joinB_take_len 59 b L (k + 1)
    rw [ht, List.length_append, List.length_cons] at hb1
    generalize joinB 59 (b :: L.take k) = t at *
    have hb2 : t.length + 1 ≤ 9223372036854775807 := by omega
    have hb3 : t.length + 1 + x.length ≤ 9223372036854775807 := by omega
    have kt := Hold.mk ht
    clear ht hx
    repeat (first | with_reducible refine seq_k fun K hK => ?_ | (with_reducible refine region_k fun K hK => ?_; simp [*]) | (with_reducible refine region_drawT_k mixedO (by decide +kernel) fun K hK => ?_; simp [*]) | (with_reducible refine region_tame_a mixedO (by decide +kernel) fun K hK => ?_; simp [*, Low, isLoadB, isTameB, List.range_succ, List.range']) | with_reducible refine pwp_block ?_ | with_reducible refine pwp_skip ?_ | with_reducible refine pwp_ret ?_ | with_reducible refine pwp_exit ?_ | (with_reducible refine cond_t ?_ ?_; (focus (simp [*]; done))) | (with_reducible refine cond_f ?_ ?_; (focus (simp [*]; done))) | with_reducible refine then_n ?_ | with_reducible refine then_r ?_ | with_reducible refine then_e ?_ | with_reducible refine then_g ?_ | with_reducible refine inB_n ?_ | with_reducible refine inB_r ?_ | with_reducible refine inB_e ?_ | with_reducible refine inB_o rfl ?_ | with_reducible refine inB_g ?_ | with_reducible refine Leads.go (by assumption) ?_)
    simp [*]
    rw [kt.out]
  · rintro ⟨E, Hx, df⟩ ⟨en, edf, eH, e1, e5, e0⟩
    simp only at en edf eH e1 e5 e0
    subst edf; replace eH := eH.symm; subst eH
    rw [List.take_length] at e0
    repeat (first | with_reducible refine seq_k fun K hK => ?_ | (with_reducible refine region_k fun K hK => ?_; simp [*]) | (with_reducible refine region_drawT_k mixedO (by decide +kernel) fun K hK => ?_; simp [*]) | (with_reducible refine region_tame_a mixedO (by decide +kernel) fun K hK => ?_; simp [*, Low, isLoadB, isTameB, List.range_succ, List.range']) | with_reducible refine pwp_block ?_ | with_reducible refine pwp_skip ?_ | with_reducible refine pwp_ret ?_ | with_reducible refine pwp_exit ?_ | (with_reducible refine cond_t ?_ ?_; (focus (simp [*]; done))) | (with_reducible refine cond_f ?_ ?_; (focus (simp [*]; done))) | with_reducible refine then_n ?_ | with_reducible refine then_r ?_ | with_reducible refine then_e ?_ | with_reducible refine then_g ?_ | with_reducible refine inB_n ?_ | with_reducible refine inB_r ?_ | with_reducible refine inB_e ?_ | with_reducible refine inB_o rfl ?_ | with_reducible refine inB_g ?_ | with_reducible refine Leads.go (by assumption) ?_)
    simp [*]
end Go.Pv
