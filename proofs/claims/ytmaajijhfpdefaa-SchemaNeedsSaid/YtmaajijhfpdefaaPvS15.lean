/- A part of the proof: functions of the program, walked, or what operations come to. -/
import Derived.Test.YtmaajijhfpdefaaPvS14
import Derived.Test.YtmaajijhfpdefaaPvDrawT
namespace Go.Pv
open Go.Proofs
attribute [local simp] Try.underlying23 Try.underlying29 Try.underlying37 Heap.new_get Heap.put_get strD eBuildSlice
@[simp] theorem res7 : Try.f7.results.toList = [.tmp 4] := rfl
/-! ### What Check says of attributes by their names -/
def unB (l : List Bs) : List ByteArray := l.map fun a => ⟨a.toArray⟩
theorem lb_unB (l : List Bs) : lb l = (unB l).map strD := by
  rw [lb, unB, List.map_map]; rfl
theorem unB_len (l : List Bs) : (unB l).length = l.length := by simp [unB]
def GoodN (x : Bs) : Prop := fat ⟨x.toArray⟩ < 20 ∧ (an (fat ⟨x.toArray⟩)).data.toList = x
instance (x : Bs) : Decidable (GoodN x) := by unfold GoodN; infer_instance
theorem good_size {x : Bs} (h : GoodN x) : (ByteArray.mk x.toArray).size ≤ 140737488351232 := by
  have := an_small (fat ⟨x.toArray⟩)
  have h2 := congrArg List.length h.2
  rw [Array.length_toList] at h2
  have h3 : (ByteArray.mk x.toArray).size = x.length := by simp [ByteArray.size]
  have h4 : (an (fat ⟨x.toArray⟩)).size = (an (fat ⟨x.toArray⟩)).data.size := rfl
  omega
theorem good_names {N : List Bs} (h : ∀ x ∈ N, GoodN x) : okAt (unB N) = true ∧ namesB (unB N) = N := by
  constructor
  · rw [okAt, unB, List.all_map, List.all_eq_true]
    intro x hx
    simpa using (h x hx).1
  · rw [namesB, unB, List.map_map]
    exact (List.map_congr_left fun x hx => (h x hx).2).trans (List.map_id N)
theorem good_tab : ∀ k, k < 10 → (∀ x ∈ byts ((ch k).flatMap mu), GoodN x) ∧ ∀ x ∈ byts ((ch k).flatMap ma), GoodN x := by decide +kernel
theorem good_an : ∀ k, k < 20 → GoodN (an k).data.toList := by decide +kernel
theorem mustU_good {ks : List Nat} (h : ∀ k ∈ ks, k < 10) : ∀ x ∈ mustU ks, GoodN x := fun x hx => by
  obtain ⟨k, h1, h2⟩ := (mem_mustU ks x).1 hx
  exact (good_tab k (h k h1)).1 x h2
theorem mayU_good {ks : List Nat} (h : ∀ k ∈ ks, k < 10) : ∀ x ∈ mayU ks, GoodN x := fun x hx => by
  obtain ⟨⟨k, h1, h2⟩, _⟩ := (mem_mayU ks x).1 hx
  exact (good_tab k (h k h1)).2 x h2
theorem checkV_good {ks : List Nat} {N : List Bs} (h : ∀ x ∈ N, GoodN x) : checkV ks (unB N) = if oneB ks = false then 16 else if ((mustU ks).all fun m => decide (m ∈ N)) = false then 11 else
    if (N.all fun n => decide (n ∈ mustU ks) || decide (n ∈ mayU ks)) = false then 2 else 0 := by
  obtain ⟨h1, h2⟩ := good_names h
  rw [checkV, h1, h2, if_neg (by decide)]
theorem checkV_least {ks : List Nat} (h : ∀ k ∈ ks, k < 10) : checkV ks (unB (mustU ks)) = if oneB ks = false then 16 else 0 := by
  rw [checkV_good (mustU_good h)]
  have h1 : ((mustU ks).all fun m => decide (m ∈ mustU ks)) = true := by rw [List.all_eq_true]; intro x hx; simpa using hx
  have h2 : ((mustU ks).all fun n => decide (n ∈ mustU ks) || decide (n ∈ mayU ks)) = true := by rw [List.all_eq_true]; intro x hx; simp [hx]
  rw [h1, h2]; rfl
theorem checkV_most {ks : List Nat} (h : ∀ k ∈ ks, k < 10) (ho : oneB ks = true) : checkV ks (unB (mayU ks ++ mustU ks)) = 0 := by
  rw [checkV_good (fun x hx => (List.mem_append.1 hx).elim (mayU_good h x) (mustU_good h x)), ho]
  have h1 : ((mustU ks).all fun m => decide (m ∈ mayU ks ++ mustU ks)) = true := by rw [List.all_eq_true]; intro x hx; simp [hx]
  have h2 : ((mayU ks ++ mustU ks).all fun n => decide (n ∈ mustU ks) || decide (n ∈ mayU ks)) = true := by
    rw [List.all_eq_true]; intro x hx
    rcases List.mem_append.1 hx with hx | hx <;> simp [hx]
  rw [h1, h2]; rfl
theorem checkV_without {ks : List Nat} (h : ∀ k ∈ ks, k < 10) (ho : oneB ks = true) {i : Nat} {c : Bs} (hc : (mustU ks)[i]? = some c) : checkV ks (unB ((mustU ks).take i ++ (mustU ks).drop (i + 1))) = 11 := by
  rw [checkV_good (fun x hx => (List.mem_append.1 hx).elim (fun q => mustU_good h x (List.mem_of_mem_take q)) (fun q => mustU_good h x (List.mem_of_mem_drop q))), ho]
  have hi : i < (mustU ks).length := (List.getElem?_eq_some_iff.1 hc).1
  have hci : (mustU ks)[i] = c := by rw [List.getElem?_eq_getElem hi] at hc; exact Option.some.inj hc
  have hpw : (mustU ks).Pairwise Lt := compact_sort_pw _
  have h1 : ((mustU ks).all fun m => decide (m ∈ (mustU ks).take i ++ (mustU ks).drop (i + 1))) = false := by
    rw [List.all_eq_false]
    refine ⟨c, List.mem_of_getElem? hc, ?_⟩
    simp only [List.mem_append, decide_eq_true_eq, not_or]
    constructor
    · intro q
      obtain ⟨j, hj, hjc⟩ := List.getElem_of_mem q
      rw [List.getElem_take] at hjc
      simp at hj
      have := List.pairwise_iff_getElem.1 hpw j i (by omega) hi (by omega)
      exact this.2 (hjc.trans hci.symm)
    · intro q
      obtain ⟨j, hj, hjc⟩ := List.getElem_of_mem q
      rw [List.getElem_drop] at hjc
      simp at hj
      have := List.pairwise_iff_getElem.1 hpw i (i + 1 + j) hi (by omega) (by omega)
      exact this.2 (hci.trans hjc.symm)
  rw [h1]; rfl
theorem checkV_one {ks : List Nat} (h : ∀ k ∈ ks, k < 10) (ho : oneB ks = true) {n : Bs} (hn : GoodN n) : checkV ks (unB (n :: mustU ks)) = if n ∈ mustU ks ∨ n ∈ mayU ks then 0 else 2 := by
  rw [checkV_good (fun x hx => (List.mem_cons.1 hx).elim (fun q => q ▸ hn) (mustU_good h x)), ho]
  have h1 : ((mustU ks).all fun m => decide (m ∈ n :: mustU ks)) = true := by rw [List.all_eq_true]; intro x hx; simp [hx]
  rw [h1]
  have h3 : ((mustU ks).all fun n => decide (n ∈ mustU ks) || decide (n ∈ mayU ks)) = true := by rw [List.all_eq_true]; intro x hx; simp [hx]
  rw [List.all_cons, h3, Bool.and_true]
  by_cases q : n ∈ mustU ks
  · simp [q]
  · by_cases q2 : n ∈ mayU ks <;> simp [q, q2]
theorem fz_sl {P : Program} (n : Nat) (H : Heap) (g : Nat) (e : TypeId) (l : List ByteArray) : fz P (n + 2) H (.slice g e (l.map strD)) = some (.slice g e (l.map strD)) := by rw [fz, fz_strs]
theorem Check_own (g : Nat) (ss : List ByteArray) (N : List Bs) {d : D} {H : Heap} (h : Own H d (lb N)) (hs : ∀ s ∈ ss, s.size ≤ 140737488351232) (hl : ss.length ≤ 1000) (hN : ∀ x ∈ N, GoodN x) (hl2 : N.length ≤ 100000) (hok : okAll ss = true) :
    PCalls Try.prog 22 [.slice g 9 (ss.map strD), d] H fun r H' => r = .val (.int .i64 (checkV (ss.map fcls) (unB N))) := by
  rw [lb_unB] at h
  refine PCalls.thaw (k := 20) (ds' := [.slice g 9 (ss.map strD), .slice (if (unB N).length = 0 then 3 else 0) 9 ((unB N).map strD)]) ?_ ?_
  · rw [mapO, fz_sl 18, mapO, fz_own 18 h]; rfl
  · refine PCalls.mono (Check_spec g _ 9 9 ss (unB N) (.inr rfl) (.inr rfl) hs (fun s hs => ?_) hl (by rw [unB_len]; exact hl2) _) ?_
    · obtain ⟨x, hx, rfl⟩ := List.mem_map.1 hs
      exact good_size (hN x hx)
    · rintro r _ ⟨rfl, _⟩
      rw [checkR, if_pos hok]
def pAt : List ByteArray := [⟨#[99, 110]⟩, ⟨#[115, 110]⟩, ⟨#[111, 98, 106, 101, 99, 116, 67, 108, 97, 115, 115]⟩]
theorem p1 : okAll [person] = true ∧ [person].map fcls = [4] ∧ okAt pAt = true ∧ oneB [4] = true := by decide +kernel
theorem p2 : (∀ x ∈ byts ((ch 4).flatMap mu), x ∈ namesB pAt) ∧ ∀ x ∈ namesB pAt, x ∈ byts ((ch 4).flatMap mu) := by decide +kernel
theorem person_check : checkR [person] pAt = 0 := by
  obtain ⟨h1, h2, h3, h4⟩ := p1
  rw [checkR, if_pos h1, h2, checkV, h3, h4]
  have h5 : ((mustU [4]).all fun m => decide (m ∈ namesB pAt)) = true := by
    rw [List.all_eq_true]; intro x hx
    obtain ⟨k, hk, hx⟩ := (mem_mustU [4] x).1 hx
    simp only [List.mem_singleton] at hk
    subst hk
    simpa using p2.1 x hx
  have h6 : ((namesB pAt).all fun n => decide (n ∈ mustU [4]) || decide (n ∈ mayU [4])) = true := by
    rw [List.all_eq_true]; intro x hx
    have : x ∈ mustU [4] := (mem_mustU [4] x).2 ⟨4, by simp, p2.2 x hx⟩
    simp [this]
  rw [h5, h6]; rfl
theorem Check_rows {H : Heap} {d1 d2 : D} {ss bs : List ByteArray} (h1 : Own H d1 (ss.map strD)) (h2 : Own H d2 (bs.map strD)) (hs : ∀ s ∈ ss, s.size ≤ 140737488351232) (hs2 : ∀ s ∈ bs, s.size ≤ 140737488351232) (hl : ss.length ≤ 1000) (hl2 : bs.length ≤ 100000) :
    PCalls Try.prog 22 [d1, d2] H fun r H' => r = .val (.int .i64 (checkR ss bs)) := by
  refine PCalls.thaw (k := 20) (ds' := [.slice (if ss.length = 0 then 3 else 0) 9 (ss.map strD), .slice (if bs.length = 0 then 3 else 0) 9 (bs.map strD)]) (by rw [mapO, fz_own 18 h1, mapO, fz_own 18 h2]; rfl) ?_
  refine PCalls.mono (Check_spec _ _ 9 9 ss bs (.inr rfl) (.inr rfl) hs hs2 hl hl2 _) ?_
  rintro r _ ⟨rfl, _⟩
  rfl
theorem two_rows (H : Heap) (A B : List D) : Own ((H.new (.row 9 A)).new (.row 9 B)) (.row H.nx 9 0 A.length) A ∧ Own ((H.new (.row 9 A)).new (.row 9 B)) (.row (H.nx + 1) 9 0 B.length) B :=
  ⟨⟨H.nx, by simp; omega, rfl, by rw [Heap.new_ne _ _ (by simp), Heap.new_same]⟩, ⟨H.nx + 1, by simp, rfl, Heap.new_same (H.new (.row 9 A)) _⟩⟩
set_option maxHeartbeats 8000000 in
set_option maxRecDepth 100000 in
theorem SchemaNeeds_walk (g1 : Nat) (l : List ByteArray) (pick : Int) : PCalls Try.prog 7 [.slice g1 9 (l.map strD), .val (.int .i64 pick)] (noHeap noG) fun d _ => d = .val (.bool true) := by
  refine PCalls.of_pwp Try.call7 Try.func7 rfl (by simp [Try.ntmps7]) ?_
  rw [Try.ntmps7]
  by_cases h1 : fs l ≤ 600
  · obtain ⟨n1, s1⟩ := fs_size h1
    have s1' : ∀ s ∈ l, s.size ≤ 140737488351232 := fun s hs => by have := s1 s hs; omega
    have hfew := few_spec g1 9 l (.inr rfl)
    have hAll := All_spec g1 9 l (.inr rfl) s1' (by omega)
    have hC := fun g2 e2 bs he hs hl => Check_spec g1 g2 9 e2 l bs (.inr rfl) he s1' hs (by omega) hl
    have hCo := fun N d H (h : Own H d (lb N)) hN hl hok => Check_own g1 l N h s1' (by omega) hN hl hok
    have khC := Hold.mk hC
    have khCo := Hold.mk hCo
    clear s1 hC hCo
    generalize hLL : l.map strD = LL at *
    repeat (first | with_reducible refine seq_k fun K hK => ?_ | (with_reducible refine region_k fun K hK => ?_; simp [*]) | (with_reducible refine region_drawT_k mixedO (by decide +kernel) fun K hK => ?_; simp [*]) | with_reducible refine pwp_block ?_ | with_reducible refine pwp_skip ?_ | with_reducible refine pwp_ret ?_ | with_reducible refine pwp_exit ?_ | (with_reducible refine cond_t ?_ ?_; (focus (simp [*]; done))) | (with_reducible refine cond_f ?_ ?_; (focus (simp [*]; done))) | with_reducible refine then_n ?_ | with_reducible refine then_r ?_ | with_reducible refine then_e ?_ | with_reducible refine then_g ?_ | with_reducible refine inB_n ?_ | with_reducible refine inB_r ?_ | with_reducible refine inB_e ?_ | with_reducible refine inB_o rfl ?_ | with_reducible refine inB_g ?_ | with_reducible refine Leads.go (by assumption) ?_)
    refine PCalls.mono (hfew _) ?_
    rintro _ _ ⟨rfl, rfl⟩
    clear hfew
    simp [*]
    repeat (first | with_reducible refine seq_k fun K hK => ?_ | (with_reducible refine region_k fun K hK => ?_; simp [*]) | (with_reducible refine region_drawT_k mixedO (by decide +kernel) fun K hK => ?_; simp [*]) | with_reducible refine pwp_block ?_ | with_reducible refine pwp_skip ?_ | with_reducible refine pwp_ret ?_ | with_reducible refine pwp_exit ?_ | (with_reducible refine cond_t ?_ ?_; (focus (simp [*]; done))) | (with_reducible refine cond_f ?_ ?_; (focus (simp [*]; done))) | with_reducible refine then_n ?_ | with_reducible refine then_r ?_ | with_reducible refine then_e ?_ | with_reducible refine then_g ?_ | with_reducible refine inB_n ?_ | with_reducible refine inB_r ?_ | with_reducible refine inB_e ?_ | with_reducible refine inB_o rfl ?_ | with_reducible refine inB_g ?_ | with_reducible refine Leads.go (by assumption) ?_)
    refine PCalls.mono (hAll _) ?_
    rintro r _ ⟨hr, rfl⟩
    clear hAll
    have q := AllRes.form hr
    obtain ⟨a1, b1, a2, b2, U, V, n, q, q1, q2, r1, r2, hA⟩ := q
    rcases hA with ⟨oA, en, eU, eV⟩ | ⟨oA, en, eU, eV⟩
    · have hk10 : ∀ k ∈ l.map fcls, k < 10 := by
        intro k hk
        obtain ⟨s, hs, rfl⟩ := List.mem_map.1 hk
        have := List.all_eq_true.1 oA s hs
        simpa using this
      have gU : ∀ x ∈ U, GoodN x := by rw [eU]; exact mustU_good hk10
      have gV : ∀ x ∈ V, GoodN x := by rw [eV]; exact mayU_good hk10
      have hc1 := checkV_least hk10
      rw [← eU] at hc1
      have hc2 := fun ho => checkV_most hk10 ho
      rw [← eU, ← eV] at hc2
      have hc3 : ∀ (ho : oneB (l.map fcls) = true) {i : Nat} {c : Bs}, U[i]? = some c → checkV (l.map fcls) (unB (U.take i ++ U.drop (i + 1))) = 11 := fun ho {i c} hc => by rw [eU] at hc ⊢; exact checkV_without hk10 ho hc
      have hc4 : ∀ (ho : oneB (l.map fcls) = true) {n : Bs}, GoodN n → checkV (l.map fcls) (unB (n :: U)) = if n ∈ U ∨ n ∈ V then 0 else 2 := fun ho {n} hn => by rw [eU, eV]; exact checkV_one hk10 ho hn
      have kc1 := Hold.mk hc1
      have kc2 := Hold.mk hc2
      have kc3 := Hold.mk @hc3
      have kc4 := Hold.mk @hc4
      have koA := Hold.mk oA
      have hUl : U.length ≤ 1000 := by omega
      have hVl : V.length ≤ 1000 := by omega
      clear eU eV hk10 hc1 hc2 hc3 hc4 oA hr r1 r2
      subst en
      subst q
      simp [*]
      repeat (first | with_reducible refine seq_k fun K hK => ?_ | (with_reducible refine region_k fun K hK => ?_; simp [*]) | (with_reducible refine region_drawT_k mixedO (by decide +kernel) fun K hK => ?_; simp [*]) | with_reducible refine pwp_block ?_ | with_reducible refine pwp_skip ?_ | with_reducible refine pwp_ret ?_ | with_reducible refine pwp_exit ?_ | (with_reducible refine cond_t ?_ ?_; (focus (simp [*]; done))) | (with_reducible refine cond_f ?_ ?_; (focus (simp [*]; done))) | with_reducible refine then_n ?_ | with_reducible refine then_r ?_ | with_reducible refine then_e ?_ | with_reducible refine then_g ?_ | with_reducible refine inB_n ?_ | with_reducible refine inB_r ?_ | with_reducible refine inB_e ?_ | with_reducible refine inB_o rfl ?_ | with_reducible refine inB_g ?_ | with_reducible refine Leads.go (by assumption) ?_)
      have hc := khC.out a1 b1 (unB U) (by rw [← List.length_eq_zero_iff, unB_len, List.length_eq_zero_iff]; exact q1) (fun s hs => by obtain ⟨x, hx, rfl⟩ := List.mem_map.1 hs; exact good_size (gU x hx)) (by rw [unB_len]; omega)
      rw [← lb_unB, checkR, if_pos koA.out, kc1.out] at hc
      refine PCalls.mono (hc _) ?_
      rintro _ _ ⟨rfl, rfl⟩
      clear hc kc1
      by_cases ho : oneB (l.map fcls) = true
      · replace kc2 := Hold.mk (kc2.out ho)
        replace kc3 := Hold.mk (@fun i c => kc3.out ho (i := i) (c := c))
        replace kc4 := Hold.mk (@fun n => kc4.out ho (n := n))
        rw [ho]
        clear ho
        have hb1 : 9 = b1 ∨ U = [] := q1.symm.imp Eq.symm id
        have hb2 : 9 = b2 ∨ V = [] := q2.symm.imp Eq.symm id
        simp
        repeat (first | with_reducible refine seq_k fun K hK => ?_ | (with_reducible refine region_k fun K hK => ?_; simp [*]) | (with_reducible refine region_drawT_k mixedO (by decide +kernel) fun K hK => ?_; simp [*]) | with_reducible refine pwp_block ?_ | with_reducible refine pwp_skip ?_ | with_reducible refine pwp_ret ?_ | with_reducible refine pwp_exit ?_ | (with_reducible refine cond_t ?_ ?_; (focus (simp [*]; done))) | (with_reducible refine cond_f ?_ ?_; (focus (simp [*]; done))) | with_reducible refine then_n ?_ | with_reducible refine then_r ?_ | with_reducible refine then_e ?_ | with_reducible refine then_g ?_ | with_reducible refine inB_n ?_ | with_reducible refine inB_r ?_ | with_reducible refine inB_e ?_ | with_reducible refine inB_o rfl ?_ | with_reducible refine inB_g ?_ | with_reducible refine Leads.go (by assumption) ?_)
        obtain ⟨x1, H1, x2, H2, k1, k2, hown⟩ := own_two (noHeap noG) (lb V) (lb U) (by simp; omega)
        have happ : ∀ A B : List Bs, lb A ++ lb B = lb (A ++ B) := fun A B => by simp [lb]
        rw [happ] at hown
        simp [k1, k2, hb1]
        have hc := khCo.out _ _ _ hown (fun x hx => (List.mem_append.1 hx).elim (gV x) (gU x)) (by simp; omega) koA.out
        rw [kc2.out] at hc
        refine PCalls.mono hc ?_
        rintro _ H3 rfl
        clear hc k1 k2 hown
        simp [*]
        repeat (first | with_reducible refine seq_k fun K hK => ?_ | (with_reducible refine region_k fun K hK => ?_; simp [*]) | (with_reducible refine region_drawT_k mixedO (by decide +kernel) fun K hK => ?_; simp [*]) | with_reducible refine pwp_block ?_ | with_reducible refine pwp_skip ?_ | with_reducible refine pwp_ret ?_ | with_reducible refine pwp_exit ?_ | (with_reducible refine cond_t ?_ ?_; (focus (simp [*]; done))) | (with_reducible refine cond_f ?_ ?_; (focus (simp [*]; done))) | with_reducible refine then_n ?_ | with_reducible refine then_r ?_ | with_reducible refine then_e ?_ | with_reducible refine then_g ?_ | with_reducible refine inB_n ?_ | with_reducible refine inB_r ?_ | with_reducible refine inB_e ?_ | with_reducible refine inB_o rfl ?_ | with_reducible refine inB_g ?_ | with_reducible refine Leads.go (by assumption) ?_)
        refine pwp_for U.length (fun k st => st.env.n = 103 ∧ st.df = [] ∧ slots st.env [(0, .slice g1 9 LL), (5, .slice a1 b1 (lb U)), (6, .slice a2 b2 (lb V)), (9, .val (.int .i64 k))]) ?_ ?_ ?_
        · simp
        · rintro k ⟨E, H, df⟩ h ⟨en, edf, ⟨e0, e5, e6, e9, -⟩⟩
          simp only at en edf e0 e5 e6 e9
          subst edf
          have hki : (k : Int) < (U.length : Int) := by omega
          have hki2 : (k : Int) ≤ (U.length : Int) := by omega
          have hki3 : k ≤ U.length := by omega
          have hki4 : (k : Int) + 1 ≤ (U.length : Int) := by omega
          have hki5 : k + 1 ≤ U.length := by omega
          have hki6 : 0 ≤ (k : Int) + 1 := by omega
          obtain ⟨c, hc⟩ : ∃ c, U[k]? = some c := ⟨_, List.getElem?_eq_getElem h⟩
          have hLl : (lb U).length = U.length := lb_len U
          obtain rfl : b1 = 9 := q1.resolve_left (fun q => by subst q; simp at h)
          have hw := wrapSucc k (by omega)
          have hv := kc3.out k c hc
          have hl1 := Hold.mk (show (lb U).take k = lb (U.take k) by rw [lb, lb, List.map_take])
          have hl2 := Hold.mk (show (lb U).drop (k + 1) = lb (U.drop (k + 1)) by rw [lb, lb, List.map_drop])
          clear hc
          generalize lb U = L at *
          have hlt : L.take U.length = L := List.take_of_length_le (by omega)
          repeat (first | with_reducible refine seq_k fun K hK => ?_ | (with_reducible refine region_k fun K hK => ?_; simp [*]) | (with_reducible refine region_drawT_k mixedO (by decide +kernel) fun K hK => ?_; simp [*]) | with_reducible refine pwp_block ?_ | with_reducible refine pwp_skip ?_ | with_reducible refine pwp_ret ?_ | with_reducible refine pwp_exit ?_ | (with_reducible refine cond_t ?_ ?_; (focus (simp [*]; done))) | (with_reducible refine cond_f ?_ ?_; (focus (simp [*]; done))) | with_reducible refine then_n ?_ | with_reducible refine then_r ?_ | with_reducible refine then_e ?_ | with_reducible refine then_g ?_ | with_reducible refine inB_n ?_ | with_reducible refine inB_r ?_ | with_reducible refine inB_e ?_ | with_reducible refine inB_o rfl ?_ | with_reducible refine inB_g ?_ | with_reducible refine Leads.go (by assumption) ?_)
          obtain ⟨x1, H1, x2, H2, k1, k2, hown⟩ := own_two H (L.take k) (L.drop (k + 1)) (by simp; omega)
          rw [hl1.out, hl2.out, happ] at hown
          simp [k1, k2, *]
          repeat (first | with_reducible refine seq_k fun K hK => ?_ | (with_reducible refine region_k fun K hK => ?_; simp [*]) | (with_reducible refine region_drawT_k mixedO (by decide +kernel) fun K hK => ?_; simp [*]) | with_reducible refine pwp_block ?_ | with_reducible refine pwp_skip ?_ | with_reducible refine pwp_ret ?_ | with_reducible refine pwp_exit ?_ | (with_reducible refine cond_t ?_ ?_; (focus (simp [*]; done))) | (with_reducible refine cond_f ?_ ?_; (focus (simp [*]; done))) | with_reducible refine then_n ?_ | with_reducible refine then_r ?_ | with_reducible refine then_e ?_ | with_reducible refine then_g ?_ | with_reducible refine inB_n ?_ | with_reducible refine inB_r ?_ | with_reducible refine inB_e ?_ | with_reducible refine inB_o rfl ?_ | with_reducible refine inB_g ?_ | with_reducible refine Leads.go (by assumption) ?_)
          have hc := khCo.out _ _ _ hown (fun x hx => (List.mem_append.1 hx).elim (fun q => gU x (List.mem_of_mem_take q)) (fun q => gU x (List.mem_of_mem_drop q))) (by simp; omega) koA.out
          rw [hv] at hc
          refine PCalls.mono hc ?_
          rintro _ H3 rfl
          clear hc k1 k2 hown hv
          simp [*]
          repeat (first | with_reducible refine seq_k fun K hK => ?_ | (with_reducible refine region_k fun K hK => ?_; simp [*]) | (with_reducible refine region_drawT_k mixedO (by decide +kernel) fun K hK => ?_; simp [*]) | with_reducible refine pwp_block ?_ | with_reducible refine pwp_skip ?_ | with_reducible refine pwp_ret ?_ | with_reducible refine pwp_exit ?_ | (with_reducible refine cond_t ?_ ?_; (focus (simp [*]; done))) | (with_reducible refine cond_f ?_ ?_; (focus (simp [*]; done))) | with_reducible refine then_n ?_ | with_reducible refine then_r ?_ | with_reducible refine then_e ?_ | with_reducible refine then_g ?_ | with_reducible refine inB_n ?_ | with_reducible refine inB_r ?_ | with_reducible refine inB_e ?_ | with_reducible refine inB_o rfl ?_ | with_reducible refine inB_g ?_ | with_reducible refine Leads.go (by assumption) ?_)
          refine ⟨by simp [*], rfl, by simp [*]⟩
        · rintro ⟨E, H, df⟩ ⟨en, edf, ⟨e0, e5, e6, e9, -⟩⟩
          simp only at en edf e0 e5 e6 e9
          subst edf
          repeat (first | with_reducible refine seq_k fun K hK => ?_ | (with_reducible refine region_k fun K hK => ?_; simp [*]) | (with_reducible refine region_drawT_k mixedO (by decide +kernel) fun K hK => ?_; simp [*]) | with_reducible refine pwp_block ?_ | with_reducible refine pwp_skip ?_ | with_reducible refine pwp_ret ?_ | with_reducible refine pwp_exit ?_ | (with_reducible refine cond_t ?_ ?_; (focus (simp [*]; done))) | (with_reducible refine cond_f ?_ ?_; (focus (simp [*]; done))) | with_reducible refine then_n ?_ | with_reducible refine then_r ?_ | with_reducible refine then_e ?_ | with_reducible refine then_g ?_ | with_reducible refine inB_n ?_ | with_reducible refine inB_r ?_ | with_reducible refine inB_e ?_ | with_reducible refine inB_o rfl ?_ | with_reducible refine inB_g ?_ | with_reducible refine Leads.go (by assumption) ?_)
          refine PCalls.mono (Attributes_spec _) ?_
          rintro _ H ⟨rfl, rfl⟩
          try simp [*]
          repeat (first | with_reducible refine seq_k fun K hK => ?_ | (with_reducible refine region_k fun K hK => ?_; simp [*]) | (with_reducible refine region_drawT_k mixedO (by decide +kernel) fun K hK => ?_; simp [*]) | with_reducible refine pwp_block ?_ | with_reducible refine pwp_skip ?_ | with_reducible refine pwp_ret ?_ | with_reducible refine pwp_exit ?_ | (with_reducible refine cond_t ?_ ?_; (focus (simp [*]; done))) | (with_reducible refine cond_f ?_ ?_; (focus (simp [*]; done))) | with_reducible refine then_n ?_ | with_reducible refine then_r ?_ | with_reducible refine then_e ?_ | with_reducible refine then_g ?_ | with_reducible refine inB_n ?_ | with_reducible refine inB_r ?_ | with_reducible refine inB_e ?_ | with_reducible refine inB_o rfl ?_ | with_reducible refine inB_g ?_ | with_reducible refine Leads.go (by assumption) ?_)
          refine pwp_for 20 (fun k st => st.env.n = 103 ∧ st.df = [] ∧ slots st.env [(0, .slice g1 9 LL), (5, .slice a1 b1 (lb U)), (6, .slice a2 b2 (lb V)), (10, .slice 0 23 ((List.range 20).map atD)), (11, .val (.int .i64 k))]) ?_ ?_ ?_
          · simp [*]
          · clear en e0 e5 e6 e9 kc2 kc3 H3
            rintro k ⟨E, H, df⟩ h ⟨en, edf, ⟨e0, e5, e6, e10, e11, -⟩⟩
            simp only at en edf e0 e5 e6 e10 e11
            subst edf
            have hki : (k : Int) < 20 := by omega
            have hL : ((List.range 20).map atD)[k]? = some (atD k) := by rw [List.getElem?_map, List.getElem?_range h]; rfl
            have hLl : ((List.range 20).map atD).length = 20 := by simp
            have hge := get_of hL
            have hw := wrapSucc k (by omega)
            have hgk := good_an k h
            have hv := kc4.out _ hgk
            have hh1 := has_spec a1 b1 U (an k).data.toList q1 (by omega)
            have hh2 := has_spec a2 b2 V (an k).data.toList q2 (by omega)
            have hnm : strD (an k) :: lb U = lb ((an k).data.toList :: U) := rfl
            have knm := Hold.mk hnm
            have kgk := Hold.mk hgk
            have kv := Hold.mk hv
            clear hgk hv hnm
            generalize (List.range 20).map atD = L at *
            repeat (first | with_reducible refine seq_k fun K hK => ?_ | (with_reducible refine region_k fun K hK => ?_; simp [*]) | (with_reducible refine region_drawT_k mixedO (by decide +kernel) fun K hK => ?_; simp [*]) | with_reducible refine pwp_block ?_ | with_reducible refine pwp_skip ?_ | with_reducible refine pwp_ret ?_ | with_reducible refine pwp_exit ?_ | (with_reducible refine cond_t ?_ ?_; (focus (simp [*]; done))) | (with_reducible refine cond_f ?_ ?_; (focus (simp [*]; done))) | with_reducible refine then_n ?_ | with_reducible refine then_r ?_ | with_reducible refine then_e ?_ | with_reducible refine then_g ?_ | with_reducible refine inB_n ?_ | with_reducible refine inB_r ?_ | with_reducible refine inB_e ?_ | with_reducible refine inB_o rfl ?_ | with_reducible refine inB_g ?_ | with_reducible refine Leads.go (by assumption) ?_)
            refine PCalls.mono (hh1 _) ?_
            rintro _ H ⟨rfl, rfl⟩
            clear hh1
            by_cases m1 : (an k).data.toList ∈ U
            · have hv : checkV (l.map fcls) (unB ((an k).data.toList :: U)) = 0 := by rw [kv.out, if_pos (.inl m1)]
              clear hh2 kv
              rw [show decide ((an k).data.toList ∈ U) = true by simpa using m1]
              clear m1
              try simp [*]
              repeat (first | with_reducible refine seq_k fun K hK => ?_ | (with_reducible refine region_k fun K hK => ?_; simp [*]) | (with_reducible refine region_drawT_k mixedO (by decide +kernel) fun K hK => ?_; simp [*]) | with_reducible refine pwp_block ?_ | with_reducible refine pwp_skip ?_ | with_reducible refine pwp_ret ?_ | with_reducible refine pwp_exit ?_ | (with_reducible refine cond_t ?_ ?_; (focus (simp [*]; done))) | (with_reducible refine cond_f ?_ ?_; (focus (simp [*]; done))) | with_reducible refine then_n ?_ | with_reducible refine then_r ?_ | with_reducible refine then_e ?_ | with_reducible refine then_g ?_ | with_reducible refine inB_n ?_ | with_reducible refine inB_r ?_ | with_reducible refine inB_e ?_ | with_reducible refine inB_o rfl ?_ | with_reducible refine inB_g ?_ | with_reducible refine Leads.go (by assumption) ?_)
              obtain ⟨x3, H5, k1, hown⟩ := own_append (H := H.new (.row 9 [strD (an k)])) (d := .row H.nx 9 0 1) (A := [strD (an k)]) (lb U) ⟨H.nx, by simp, rfl, Heap.new_same _ _⟩ (by simp; omega)
              rw [show [strD (an k)] ++ lb U = lb ((an k).data.toList :: U) from knm.out] at hown
              simp only [strD] at k1
              simp [k1, *]
              repeat (first | with_reducible refine seq_k fun K hK => ?_ | (with_reducible refine region_k fun K hK => ?_; simp [*]) | (with_reducible refine region_drawT_k mixedO (by decide +kernel) fun K hK => ?_; simp [*]) | with_reducible refine pwp_block ?_ | with_reducible refine pwp_skip ?_ | with_reducible refine pwp_ret ?_ | with_reducible refine pwp_exit ?_ | (with_reducible refine cond_t ?_ ?_; (focus (simp [*]; done))) | (with_reducible refine cond_f ?_ ?_; (focus (simp [*]; done))) | with_reducible refine then_n ?_ | with_reducible refine then_r ?_ | with_reducible refine then_e ?_ | with_reducible refine then_g ?_ | with_reducible refine inB_n ?_ | with_reducible refine inB_r ?_ | with_reducible refine inB_e ?_ | with_reducible refine inB_o rfl ?_ | with_reducible refine inB_g ?_ | with_reducible refine Leads.go (by assumption) ?_)
              have hc := khCo.out _ _ _ hown (fun x hx => (List.mem_cons.1 hx).elim (fun q => q ▸ kgk.out) (gU x)) (by simp; omega) koA.out
              rw [hv] at hc
              refine PCalls.mono hc ?_
              rintro _ H3 rfl
              clear hc k1 hown hv
              simp [*]
              repeat (first | with_reducible refine seq_k fun K hK => ?_ | (with_reducible refine region_k fun K hK => ?_; simp [*]) | (with_reducible refine region_drawT_k mixedO (by decide +kernel) fun K hK => ?_; simp [*]) | with_reducible refine pwp_block ?_ | with_reducible refine pwp_skip ?_ | with_reducible refine pwp_ret ?_ | with_reducible refine pwp_exit ?_ | (with_reducible refine cond_t ?_ ?_; (focus (simp [*]; done))) | (with_reducible refine cond_f ?_ ?_; (focus (simp [*]; done))) | with_reducible refine then_n ?_ | with_reducible refine then_r ?_ | with_reducible refine then_e ?_ | with_reducible refine then_g ?_ | with_reducible refine inB_n ?_ | with_reducible refine inB_r ?_ | with_reducible refine inB_e ?_ | with_reducible refine inB_o rfl ?_ | with_reducible refine inB_g ?_ | with_reducible refine Leads.go (by assumption) ?_)
              refine ⟨by simp [*], rfl, by simp [*]⟩
            · rw [show decide ((an k).data.toList ∈ U) = false by simpa using m1]
              try simp [*]
              refine PCalls.mono (hh2 _) ?_
              rintro _ H ⟨rfl, rfl⟩
              clear hh2
              by_cases m2 : (an k).data.toList ∈ V
              · have hv : checkV (l.map fcls) (unB ((an k).data.toList :: U)) = 0 := by rw [kv.out, if_pos (.inr m2)]
                clear kv
                rw [show decide ((an k).data.toList ∈ V) = true by simpa using m2]
                clear m1 m2
                try simp [*]
                repeat (first | with_reducible refine seq_k fun K hK => ?_ | (with_reducible refine region_k fun K hK => ?_; simp [*]) | (with_reducible refine region_drawT_k mixedO (by decide +kernel) fun K hK => ?_; simp [*]) | with_reducible refine pwp_block ?_ | with_reducible refine pwp_skip ?_ | with_reducible refine pwp_ret ?_ | with_reducible refine pwp_exit ?_ | (with_reducible refine cond_t ?_ ?_; (focus (simp [*]; done))) | (with_reducible refine cond_f ?_ ?_; (focus (simp [*]; done))) | with_reducible refine then_n ?_ | with_reducible refine then_r ?_ | with_reducible refine then_e ?_ | with_reducible refine then_g ?_ | with_reducible refine inB_n ?_ | with_reducible refine inB_r ?_ | with_reducible refine inB_e ?_ | with_reducible refine inB_o rfl ?_ | with_reducible refine inB_g ?_ | with_reducible refine Leads.go (by assumption) ?_)
                obtain ⟨x3, H5, k1, hown⟩ := own_append (H := H.new (.row 9 [strD (an k)])) (d := .row H.nx 9 0 1) (A := [strD (an k)]) (lb U) ⟨H.nx, by simp, rfl, Heap.new_same _ _⟩ (by simp; omega)
                rw [show [strD (an k)] ++ lb U = lb ((an k).data.toList :: U) from knm.out] at hown
                simp only [strD] at k1
                simp [k1, *]
                repeat (first | with_reducible refine seq_k fun K hK => ?_ | (with_reducible refine region_k fun K hK => ?_; simp [*]) | (with_reducible refine region_drawT_k mixedO (by decide +kernel) fun K hK => ?_; simp [*]) | with_reducible refine pwp_block ?_ | with_reducible refine pwp_skip ?_ | with_reducible refine pwp_ret ?_ | with_reducible refine pwp_exit ?_ | (with_reducible refine cond_t ?_ ?_; (focus (simp [*]; done))) | (with_reducible refine cond_f ?_ ?_; (focus (simp [*]; done))) | with_reducible refine then_n ?_ | with_reducible refine then_r ?_ | with_reducible refine then_e ?_ | with_reducible refine then_g ?_ | with_reducible refine inB_n ?_ | with_reducible refine inB_r ?_ | with_reducible refine inB_e ?_ | with_reducible refine inB_o rfl ?_ | with_reducible refine inB_g ?_ | with_reducible refine Leads.go (by assumption) ?_)
                have hc := khCo.out _ _ _ hown (fun x hx => (List.mem_cons.1 hx).elim (fun q => q ▸ kgk.out) (gU x)) (by simp; omega) koA.out
                rw [hv] at hc
                refine PCalls.mono hc ?_
                rintro _ H3 rfl
                clear hc k1 hown hv
                simp [*]
                repeat (first | with_reducible refine seq_k fun K hK => ?_ | (with_reducible refine region_k fun K hK => ?_; simp [*]) | (with_reducible refine region_drawT_k mixedO (by decide +kernel) fun K hK => ?_; simp [*]) | with_reducible refine pwp_block ?_ | with_reducible refine pwp_skip ?_ | with_reducible refine pwp_ret ?_ | with_reducible refine pwp_exit ?_ | (with_reducible refine cond_t ?_ ?_; (focus (simp [*]; done))) | (with_reducible refine cond_f ?_ ?_; (focus (simp [*]; done))) | with_reducible refine then_n ?_ | with_reducible refine then_r ?_ | with_reducible refine then_e ?_ | with_reducible refine then_g ?_ | with_reducible refine inB_n ?_ | with_reducible refine inB_r ?_ | with_reducible refine inB_e ?_ | with_reducible refine inB_o rfl ?_ | with_reducible refine inB_g ?_ | with_reducible refine Leads.go (by assumption) ?_)
                refine ⟨by simp [*], rfl, by simp [*]⟩
              · have hv : checkV (l.map fcls) (unB ((an k).data.toList :: U)) = 2 := by rw [kv.out, if_neg (fun q => q.elim m1 m2)]
                clear kv
                rw [show decide ((an k).data.toList ∈ V) = false by simpa using m2]
                clear m1 m2
                try simp [*]
                repeat (first | with_reducible refine seq_k fun K hK => ?_ | (with_reducible refine region_k fun K hK => ?_; simp [*]) | (with_reducible refine region_drawT_k mixedO (by decide +kernel) fun K hK => ?_; simp [*]) | with_reducible refine pwp_block ?_ | with_reducible refine pwp_skip ?_ | with_reducible refine pwp_ret ?_ | with_reducible refine pwp_exit ?_ | (with_reducible refine cond_t ?_ ?_; (focus (simp [*]; done))) | (with_reducible refine cond_f ?_ ?_; (focus (simp [*]; done))) | with_reducible refine then_n ?_ | with_reducible refine then_r ?_ | with_reducible refine then_e ?_ | with_reducible refine then_g ?_ | with_reducible refine inB_n ?_ | with_reducible refine inB_r ?_ | with_reducible refine inB_e ?_ | with_reducible refine inB_o rfl ?_ | with_reducible refine inB_g ?_ | with_reducible refine Leads.go (by assumption) ?_)
                obtain ⟨x3, H5, k1, hown⟩ := own_append (H := H.new (.row 9 [strD (an k)])) (d := .row H.nx 9 0 1) (A := [strD (an k)]) (lb U) ⟨H.nx, by simp, rfl, Heap.new_same _ _⟩ (by simp; omega)
                rw [show [strD (an k)] ++ lb U = lb ((an k).data.toList :: U) from knm.out] at hown
                simp only [strD] at k1
                simp [k1, *]
                repeat (first | with_reducible refine seq_k fun K hK => ?_ | (with_reducible refine region_k fun K hK => ?_; simp [*]) | (with_reducible refine region_drawT_k mixedO (by decide +kernel) fun K hK => ?_; simp [*]) | with_reducible refine pwp_block ?_ | with_reducible refine pwp_skip ?_ | with_reducible refine pwp_ret ?_ | with_reducible refine pwp_exit ?_ | (with_reducible refine cond_t ?_ ?_; (focus (simp [*]; done))) | (with_reducible refine cond_f ?_ ?_; (focus (simp [*]; done))) | with_reducible refine then_n ?_ | with_reducible refine then_r ?_ | with_reducible refine then_e ?_ | with_reducible refine then_g ?_ | with_reducible refine inB_n ?_ | with_reducible refine inB_r ?_ | with_reducible refine inB_e ?_ | with_reducible refine inB_o rfl ?_ | with_reducible refine inB_g ?_ | with_reducible refine Leads.go (by assumption) ?_)
                have hc := khCo.out _ _ _ hown (fun x hx => (List.mem_cons.1 hx).elim (fun q => q ▸ kgk.out) (gU x)) (by simp; omega) koA.out
                rw [hv] at hc
                refine PCalls.mono hc ?_
                rintro _ H3 rfl
                clear hc k1 hown hv
                simp [*]
                repeat (first | with_reducible refine seq_k fun K hK => ?_ | (with_reducible refine region_k fun K hK => ?_; simp [*]) | (with_reducible refine region_drawT_k mixedO (by decide +kernel) fun K hK => ?_; simp [*]) | with_reducible refine pwp_block ?_ | with_reducible refine pwp_skip ?_ | with_reducible refine pwp_ret ?_ | with_reducible refine pwp_exit ?_ | (with_reducible refine cond_t ?_ ?_; (focus (simp [*]; done))) | (with_reducible refine cond_f ?_ ?_; (focus (simp [*]; done))) | with_reducible refine then_n ?_ | with_reducible refine then_r ?_ | with_reducible refine then_e ?_ | with_reducible refine then_g ?_ | with_reducible refine inB_n ?_ | with_reducible refine inB_r ?_ | with_reducible refine inB_e ?_ | with_reducible refine inB_o rfl ?_ | with_reducible refine inB_g ?_ | with_reducible refine Leads.go (by assumption) ?_)
                refine ⟨by simp [*], rfl, by simp [*]⟩
          · clear en e0 e5 e6 e9 kc2 kc3 H3
            rintro ⟨E, H, df⟩ ⟨en, edf, ⟨e0, e5, e6, e10, e11, -⟩⟩
            simp only at en edf e0 e5 e6 e10 e11
            subst edf
            have hLl : ((List.range 20).map atD).length = 20 := by simp
            generalize (List.range 20).map atD = L at *
            repeat (first | with_reducible refine seq_k fun K hK => ?_ | (with_reducible refine region_k fun K hK => ?_; simp [*]) | (with_reducible refine region_drawT_k mixedO (by decide +kernel) fun K hK => ?_; simp [*]) | with_reducible refine pwp_block ?_ | with_reducible refine pwp_skip ?_ | with_reducible refine pwp_ret ?_ | with_reducible refine pwp_exit ?_ | (with_reducible refine cond_t ?_ ?_; (focus (simp [*]; done))) | (with_reducible refine cond_f ?_ ?_; (focus (simp [*]; done))) | with_reducible refine then_n ?_ | with_reducible refine then_r ?_ | with_reducible refine then_e ?_ | with_reducible refine then_g ?_ | with_reducible refine inB_n ?_ | with_reducible refine inB_r ?_ | with_reducible refine inB_e ?_ | with_reducible refine inB_o rfl ?_ | with_reducible refine inB_g ?_ | with_reducible refine Leads.go (by assumption) ?_)
            simp [*]
      · have ho' : oneB (l.map fcls) = false := by simpa using ho
        rw [ho', if_pos rfl]
        clear ho ho' kc2 kc3 kc4
        try simp
        repeat (first | with_reducible refine seq_k fun K hK => ?_ | (with_reducible refine region_k fun K hK => ?_; simp [*]) | (with_reducible refine region_drawT_k mixedO (by decide +kernel) fun K hK => ?_; simp [*]) | with_reducible refine pwp_block ?_ | with_reducible refine pwp_skip ?_ | with_reducible refine pwp_ret ?_ | with_reducible refine pwp_exit ?_ | (with_reducible refine cond_t ?_ ?_; (focus (simp [*]; done))) | (with_reducible refine cond_f ?_ ?_; (focus (simp [*]; done))) | with_reducible refine then_n ?_ | with_reducible refine then_r ?_ | with_reducible refine then_e ?_ | with_reducible refine then_g ?_ | with_reducible refine inB_n ?_ | with_reducible refine inB_r ?_ | with_reducible refine inB_e ?_ | with_reducible refine inB_o rfl ?_ | with_reducible refine inB_g ?_ | with_reducible refine Leads.go (by assumption) ?_)
        refine ⟨by decide, ?_⟩
        obtain ⟨w1, w2⟩ := two_rows (noHeap noG) [strD person] (pAt.map strD)
        refine PCalls.mono (Check_rows (ss := [person]) (bs := pAt) w1 w2 (by decide) (by decide) (by decide) (by decide)) ?_
        rintro _ _ rfl
        rw [person_check]
        try simp [*]
        repeat (first | with_reducible refine seq_k fun K hK => ?_ | (with_reducible refine region_k fun K hK => ?_; simp [*]) | (with_reducible refine region_drawT_k mixedO (by decide +kernel) fun K hK => ?_; simp [*]) | with_reducible refine pwp_block ?_ | with_reducible refine pwp_skip ?_ | with_reducible refine pwp_ret ?_ | with_reducible refine pwp_exit ?_ | (with_reducible refine cond_t ?_ ?_; (focus (simp [*]; done))) | (with_reducible refine cond_f ?_ ?_; (focus (simp [*]; done))) | with_reducible refine then_n ?_ | with_reducible refine then_r ?_ | with_reducible refine then_e ?_ | with_reducible refine then_g ?_ | with_reducible refine inB_n ?_ | with_reducible refine inB_r ?_ | with_reducible refine inB_e ?_ | with_reducible refine inB_o rfl ?_ | with_reducible refine inB_g ?_ | with_reducible refine Leads.go (by assumption) ?_)
        simp [*]
    · have hcr : checkR l [] = 13 := by rw [checkR, if_neg (by rw [oA]; decide)]
      clear hr
      subst q en eU eV
      simp [*]
      repeat (first | with_reducible refine seq_k fun K hK => ?_ | (with_reducible refine region_k fun K hK => ?_; simp [*]) | (with_reducible refine region_drawT_k mixedO (by decide +kernel) fun K hK => ?_; simp [*]) | with_reducible refine pwp_block ?_ | with_reducible refine pwp_skip ?_ | with_reducible refine pwp_ret ?_ | with_reducible refine pwp_exit ?_ | (with_reducible refine cond_t ?_ ?_; (focus (simp [*]; done))) | (with_reducible refine cond_f ?_ ?_; (focus (simp [*]; done))) | with_reducible refine then_n ?_ | with_reducible refine then_r ?_ | with_reducible refine then_e ?_ | with_reducible refine then_g ?_ | with_reducible refine inB_n ?_ | with_reducible refine inB_r ?_ | with_reducible refine inB_e ?_ | with_reducible refine inB_o rfl ?_ | with_reducible refine inB_g ?_ | with_reducible refine Leads.go (by assumption) ?_)
      have hc := khC.out 1 0 [] (.inl rfl) (fun s hs => by cases hs) (by decide)
      rw [hcr] at hc
      refine PCalls.mono (hc _) ?_
      rintro _ _ ⟨rfl, rfl⟩
      clear hc
      simp [*]
      repeat (first | with_reducible refine seq_k fun K hK => ?_ | (with_reducible refine region_k fun K hK => ?_; simp [*]) | (with_reducible refine region_drawT_k mixedO (by decide +kernel) fun K hK => ?_; simp [*]) | with_reducible refine pwp_block ?_ | with_reducible refine pwp_skip ?_ | with_reducible refine pwp_ret ?_ | with_reducible refine pwp_exit ?_ | (with_reducible refine cond_t ?_ ?_; (focus (simp [*]; done))) | (with_reducible refine cond_f ?_ ?_; (focus (simp [*]; done))) | with_reducible refine then_n ?_ | with_reducible refine then_r ?_ | with_reducible refine then_e ?_ | with_reducible refine then_g ?_ | with_reducible refine inB_n ?_ | with_reducible refine inB_r ?_ | with_reducible refine inB_e ?_ | with_reducible refine inB_o rfl ?_ | with_reducible refine inB_g ?_ | with_reducible refine Leads.go (by assumption) ?_)
      simp [*]
  · repeat (first | with_reducible refine seq_k fun K hK => ?_ | (with_reducible refine region_k fun K hK => ?_; simp [*]) | (with_reducible refine region_drawT_k mixedO (by decide +kernel) fun K hK => ?_; simp [*]) | with_reducible refine pwp_block ?_ | with_reducible refine pwp_skip ?_ | with_reducible refine pwp_ret ?_ | with_reducible refine pwp_exit ?_ | (with_reducible refine cond_t ?_ ?_; (focus (simp [*]; done))) | (with_reducible refine cond_f ?_ ?_; (focus (simp [*]; done))) | with_reducible refine then_n ?_ | with_reducible refine then_r ?_ | with_reducible refine then_e ?_ | with_reducible refine then_g ?_ | with_reducible refine inB_n ?_ | with_reducible refine inB_r ?_ | with_reducible refine inB_e ?_ | with_reducible refine inB_o rfl ?_ | with_reducible refine inB_g ?_ | with_reducible refine Leads.go (by assumption) ?_)
    refine PCalls.mono (few_spec g1 9 l (.inr rfl) _) ?_
    rintro _ _ ⟨rfl, rfl⟩
    simp [*]
    repeat (first | with_reducible refine seq_k fun K hK => ?_ | (with_reducible refine region_k fun K hK => ?_; simp [*]) | (with_reducible refine region_drawT_k mixedO (by decide +kernel) fun K hK => ?_; simp [*]) | with_reducible refine pwp_block ?_ | with_reducible refine pwp_skip ?_ | with_reducible refine pwp_ret ?_ | with_reducible refine pwp_exit ?_ | (with_reducible refine cond_t ?_ ?_; (focus (simp [*]; done))) | (with_reducible refine cond_f ?_ ?_; (focus (simp [*]; done))) | with_reducible refine then_n ?_ | with_reducible refine then_r ?_ | with_reducible refine then_e ?_ | with_reducible refine then_g ?_ | with_reducible refine inB_n ?_ | with_reducible refine inB_r ?_ | with_reducible refine inB_e ?_ | with_reducible refine inB_o rfl ?_ | with_reducible refine inB_g ?_ | with_reducible refine Leads.go (by assumption) ?_)
    simp [*]
end Go.Pv
