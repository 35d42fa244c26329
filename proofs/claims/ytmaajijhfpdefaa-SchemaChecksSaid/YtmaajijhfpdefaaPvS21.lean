/- A part of the proof: functions of the program, walked, or what operations come to. -/
import Derived.Test.YtmaajijhfpdefaaPvS20
namespace Go.Pv
open Go.Proofs
attribute [local simp] Try.underlying23 Try.underlying26 Try.underlying29 Try.underlying34 Heap.new_get Heap.put_get strD eBuildSlice
@[simp] theorem res23 : Try.f23.results.toList = [.tmp 4] := rfl
@[simp] theorem sz3' : szOf Try.prog 3 = 1 := by kernel_rfl
set_option maxHeartbeats 8000000 in
set_option maxRecDepth 100000 in
theorem CheckR_local (g g2 : Nat) (e e2 : TypeId) (ss bs : List ByteArray) (he : ss = [] ∨ e = 9) (he2 : bs = [] ∨ e2 = 9) (hs : ∀ s ∈ ss, s.size ≤ 140737488351232) (hs2 : ∀ s ∈ bs, s.size ≤ 140737488351232) (hl : ss.length ≤ 1000) (hl2 : bs.length ≤ 100000) (hok : okAll ss = true) :
    PCalls Try.prog 23 [.slice g e (ss.map strD), .slice g2 e2 (bs.map strD)] (noHeap noG) fun d _ => d = .val (.int .i64 (checkV (ss.map fcls) bs)) := by
  refine PCalls.of_pwp Try.call23 Try.func23 rfl (by simp [Try.ntmps23]) ?_
  rw [Try.ntmps23]
  have hAll := AllR_spec g e ss he hs hl
  have hget : ∀ k, k < ss.length → ∃ s, ss[k]? = some s ∧ (ss.map strD)[k]? = some (.val (.string s)) ∧ e = 9 ∧ s.size ≤ 140737488351232 ∧ (ss.map fcls)[k]? = some (fcls s) := fun k h => by
    have hc : ss[k]? = some ss[k] := List.getElem?_eq_getElem h
    exact ⟨ss[k], hc, by rw [List.getElem?_map, hc]; rfl, he.resolve_left (fun q => by subst q; simp at h), hs _ (List.mem_of_getElem? hc), by rw [List.getElem?_map, hc]; rfl⟩
  have hsl : (ss.map strD).length = ss.length := by simp
  obtain ⟨ks, hks⟩ : ∃ ks, ks = ss.map fcls := ⟨_, rfl⟩
  have hkl : ks.length ≤ 1000 := by rw [hks]; simpa using hl
  have hk10 : ∀ k ∈ ks, k < 10 := by
    rw [hks]; intro k hk
    obtain ⟨s, hs, rfl⟩ := List.mem_map.1 hk
    have := List.all_eq_true.1 hok s hs
    simpa using this
  rw [← hks] at hget ⊢
  have hkl2 : ks.length = ss.length := by rw [hks]; simp
  generalize hLS : ss.map strD = LS at *
  have kget := Hold.mk hget
  clear hget
  repeat (first | with_reducible refine seq_k fun K hK => ?_ | (with_reducible refine region_k fun K hK => ?_; simp [*]) | (with_reducible refine region_draw_k mixedO (by decide +kernel) fun K hK => ?_; simp [*]) | with_reducible refine pwp_block ?_ | with_reducible refine pwp_skip ?_ | with_reducible refine pwp_ret ?_ | with_reducible refine pwp_exit ?_ | (with_reducible refine cond_t ?_ ?_; (focus (simp [*]; done))) | (with_reducible refine cond_f ?_ ?_; (focus (simp [*]; done))) | with_reducible refine then_n ?_ | with_reducible refine then_r ?_ | with_reducible refine then_e ?_ | with_reducible refine then_g ?_ | with_reducible refine inB_n ?_ | with_reducible refine inB_r ?_ | with_reducible refine inB_e ?_ | with_reducible refine inB_o rfl ?_ | with_reducible refine inB_g ?_ | with_reducible refine Leads.go (by assumption) ?_)
  refine PCalls.mono (hAll _) ?_
  rintro r _ ⟨hr, rfl⟩
  rw [AllRes, if_pos hok, ← hks] at hr
  obtain ⟨_, _, rfl, ⟨a1, b1, rfl, q1⟩, ⟨a2, b2, rfl, q2⟩⟩ := hr
  have hmu := mustU_len ks
  have hma := mayU_len ks
  have hchk : Hold (checkV ks bs = _) := ⟨rfl⟩
  clear hAll hLS hks
  try simp [*]
  repeat (first | with_reducible refine seq_k fun K hK => ?_ | (with_reducible refine region_k fun K hK => ?_; simp [*]) | (with_reducible refine region_draw_k mixedO (by decide +kernel) fun K hK => ?_; simp [*]) | with_reducible refine pwp_block ?_ | with_reducible refine pwp_skip ?_ | with_reducible refine pwp_ret ?_ | with_reducible refine pwp_exit ?_ | (with_reducible refine cond_t ?_ ?_; (focus (simp [*]; done))) | (with_reducible refine cond_f ?_ ?_; (focus (simp [*]; done))) | with_reducible refine then_n ?_ | with_reducible refine then_r ?_ | with_reducible refine then_e ?_ | with_reducible refine then_g ?_ | with_reducible refine inB_n ?_ | with_reducible refine inB_r ?_ | with_reducible refine inB_e ?_ | with_reducible refine inB_o rfl ?_ | with_reducible refine inB_g ?_ | with_reducible refine Leads.go (by assumption) ?_)
  refine pwp_for bs.length (fun k st => st.env.n = 139 ∧ st.df = [] ∧ slots st.env [(0, .slice g e LS), (1, .slice g2 e2 (bs.map strD)), (5, .slice a1 b1 (lb (mustU ks))), (6, .slice a2 b2 (lb (mayU ks))), (9, .val (.int .i64 k))] ∧
    Grow st.H (st.env.get 8) 9 (lb (namesB (bs.take k))) ∧ okAt (bs.take k) = true) ?_ ?_ ?_
  · refine ⟨by simp, rfl, by simp, .inl ⟨by simp [namesB], by simp⟩, rfl⟩
  · rintro k ⟨E, H, df⟩ h ⟨en, edf, ⟨e0, e1, e5, e6, e9, -⟩, eA, eP⟩
    simp only at en edf e0 e1 e5 e6 e9 eA
    subst edf
    obtain ⟨acc, e8⟩ : ∃ y, E.get 8 = y := ⟨_, rfl⟩
    rw [e8] at eA
    have hki : (k : Int) < (bs.length : Int) := by omega
    obtain ⟨s, hc⟩ : ∃ c, bs[k]? = some c := ⟨_, List.getElem?_eq_getElem h⟩
    have hL : (bs.map strD)[k]? = some (strD s) := by rw [List.getElem?_map, hc]; rfl
    have hge := get_of hL
    have hLl : (bs.map strD).length = bs.length := by simp
    obtain rfl : e2 = 9 := he2.resolve_left (fun q => by subst q; simp at h)
    have hw := wrapSucc k (by omega)
    have hfs := fun H => FindR_spec s H (hs2 s (List.mem_of_getElem? hc))
    have hT : namesB (bs.take (k + 1)) = namesB (bs.take k) ++ [nmB s] := by rw [List.take_add_one, hc]; simp [namesB]
    have hPk : okAt (bs.take (k + 1)) = decide (fat s < 20) := by rw [List.take_add_one, hc]; simp only [okAt, List.all_append] at eP ⊢; rw [eP]; simp
    have hmem := List.mem_of_getElem? hc
    have kT := Hold.mk hT
    have kPk := Hold.mk hPk
    have kA := Hold.mk eA
    have khc := Hold.mk hmem
    clear hT hPk eA eP hmem hc hs2
    generalize bs.map strD = L at *
    by_cases hft : fat s < 20
    · repeat (first | with_reducible refine seq_k fun K hK => ?_ | (with_reducible refine region_k fun K hK => ?_; simp [*]) | (with_reducible refine region_draw_k mixedO (by decide +kernel) fun K hK => ?_; simp [*]) | with_reducible refine pwp_block ?_ | with_reducible refine pwp_skip ?_ | with_reducible refine pwp_ret ?_ | with_reducible refine pwp_exit ?_ | (with_reducible refine cond_t ?_ ?_; (focus (simp [*]; done))) | (with_reducible refine cond_f ?_ ?_; (focus (simp [*]; done))) | with_reducible refine then_n ?_ | with_reducible refine then_r ?_ | with_reducible refine then_e ?_ | with_reducible refine then_g ?_ | with_reducible refine inB_n ?_ | with_reducible refine inB_r ?_ | with_reducible refine inB_e ?_ | with_reducible refine inB_o rfl ?_ | with_reducible refine inB_g ?_ | with_reducible refine Leads.go (by assumption) ?_)
      refine PCalls.mono (hfs _) ?_
      rintro _ H ⟨rfl, rfl⟩
      clear hfs
      try simp [*]
      repeat (first | with_reducible refine seq_k fun K hK => ?_ | (with_reducible refine region_k fun K hK => ?_; simp [*]) | (with_reducible refine region_draw_k mixedO (by decide +kernel) fun K hK => ?_; simp [*]) | with_reducible refine pwp_block ?_ | with_reducible refine pwp_skip ?_ | with_reducible refine pwp_ret ?_ | with_reducible refine pwp_exit ?_ | (with_reducible refine cond_t ?_ ?_; (focus (simp [*]; done))) | (with_reducible refine cond_f ?_ ?_; (focus (simp [*]; done))) | with_reducible refine then_n ?_ | with_reducible refine then_r ?_ | with_reducible refine then_e ?_ | with_reducible refine then_g ?_ | with_reducible refine inB_n ?_ | with_reducible refine inB_r ?_ | with_reducible refine inB_e ?_ | with_reducible refine inB_o rfl ?_ | with_reducible refine inB_g ?_ | with_reducible refine Leads.go (by assumption) ?_)
      have hG : Grow (((H.new (PObj.cells (cellsD (atD 20)))).put H.nx (some (PObj.cells (cellsD (atD (fat s)))))).new (PObj.row 9 [strD (an (fat s))])) acc 9 (lb (namesB (bs.take k))) :=
        grow_keep kA.out (fun j hj _ _ _ _ => by rw [Heap.new_ne _ _ (by simp; omega), Heap.put_ne _ _ (by omega), Heap.new_ne _ _ (by omega)]) (by simp; omega)
      obtain ⟨r, H1, k1, k2, -⟩ := grow_append [strD (an (fat s))] hG (by simp [namesB]; omega)
      have k3 : Hold (Grow H1 r 9 (lb (namesB (bs.take (k + 1))))) := ⟨by
        rw [kT.out]
        have : lb (namesB (bs.take k) ++ [nmB s]) = lb (namesB (bs.take k)) ++ [strD (an (fat s))] := by rw [lb, List.map_append]; rfl
        rw [this]; exact k2⟩
      have k4 : Hold (okAt (bs.take (k + 1)) = true) := ⟨by rw [kPk.out]; simpa using hft⟩
      simp only [cells_at, strD] at k1
      clear hG k2 kT kPk kA hchk
      simp [*]
      repeat (first | with_reducible refine seq_k fun K hK => ?_ | (with_reducible refine region_k fun K hK => ?_; simp [*]) | (with_reducible refine region_draw_k mixedO (by decide +kernel) fun K hK => ?_; simp [*]) | with_reducible refine pwp_block ?_ | with_reducible refine pwp_skip ?_ | with_reducible refine pwp_ret ?_ | with_reducible refine pwp_exit ?_ | (with_reducible refine cond_t ?_ ?_; (focus (simp [*]; done))) | (with_reducible refine cond_f ?_ ?_; (focus (simp [*]; done))) | with_reducible refine then_n ?_ | with_reducible refine then_r ?_ | with_reducible refine then_e ?_ | with_reducible refine then_g ?_ | with_reducible refine inB_n ?_ | with_reducible refine inB_r ?_ | with_reducible refine inB_e ?_ | with_reducible refine inB_o rfl ?_ | with_reducible refine inB_g ?_ | with_reducible refine Leads.go (by assumption) ?_)
      refine ⟨by simp [*], rfl, by simp [*], ?_, k4.out⟩
      simp [*]
      exact k3.out
    · have hall : okAt bs = false := by
        rw [okAt, List.all_eq_false]
        exact ⟨s, khc.out, by simp [hft]⟩
      have hv : checkV ks bs = 13 := by rw [checkV, if_pos hall]
      repeat (first | with_reducible refine seq_k fun K hK => ?_ | (with_reducible refine region_k fun K hK => ?_; simp [*]) | (with_reducible refine region_draw_k mixedO (by decide +kernel) fun K hK => ?_; simp [*]) | with_reducible refine pwp_block ?_ | with_reducible refine pwp_skip ?_ | with_reducible refine pwp_ret ?_ | with_reducible refine pwp_exit ?_ | (with_reducible refine cond_t ?_ ?_; (focus (simp [*]; done))) | (with_reducible refine cond_f ?_ ?_; (focus (simp [*]; done))) | with_reducible refine then_n ?_ | with_reducible refine then_r ?_ | with_reducible refine then_e ?_ | with_reducible refine then_g ?_ | with_reducible refine inB_n ?_ | with_reducible refine inB_r ?_ | with_reducible refine inB_e ?_ | with_reducible refine inB_o rfl ?_ | with_reducible refine inB_g ?_ | with_reducible refine Leads.go (by assumption) ?_)
      refine PCalls.mono (hfs _) ?_
      rintro _ H ⟨rfl, rfl⟩
      clear hfs
      try simp [*]
      repeat (first | with_reducible refine seq_k fun K hK => ?_ | (with_reducible refine region_k fun K hK => ?_; simp [*]) | (with_reducible refine region_draw_k mixedO (by decide +kernel) fun K hK => ?_; simp [*]) | with_reducible refine pwp_block ?_ | with_reducible refine pwp_skip ?_ | with_reducible refine pwp_ret ?_ | with_reducible refine pwp_exit ?_ | (with_reducible refine cond_t ?_ ?_; (focus (simp [*]; done))) | (with_reducible refine cond_f ?_ ?_; (focus (simp [*]; done))) | with_reducible refine then_n ?_ | with_reducible refine then_r ?_ | with_reducible refine then_e ?_ | with_reducible refine then_g ?_ | with_reducible refine inB_n ?_ | with_reducible refine inB_r ?_ | with_reducible refine inB_e ?_ | with_reducible refine inB_o rfl ?_ | with_reducible refine inB_g ?_ | with_reducible refine Leads.go (by assumption) ?_)
      simp [*]
  · rintro ⟨E, H, df⟩ ⟨en, edf, ⟨e0, e1, e5, e6, e9, -⟩, eA, eP⟩
    simp only at en edf e0 e1 e5 e6 e9 eA
    subst edf
    rw [List.take_length] at eA eP
    obtain ⟨g9, ez, hz, he9⟩ := fz_growS (P := Try.prog) eA
    refine pwp_freeze (k := 20) [(8, .slice g9 ez (lb (namesB bs)))] ?_ ?_
    · intro p hp
      simp only [List.mem_singleton] at hp
      subst hp
      exact hz
    simp only [setAll_cons, setAll_nil]
    clear hz eA
    have hnl : (namesB bs).length ≤ 100000 := by simp [namesB]; exact hl2
    have hmu2 : (mustU ks).length ≤ 100000 := by omega
    have hma2 : (mayU ks).length ≤ 100000 := by omega
    have hbl : (bs.map strD).length = bs.length := by simp
    have kv : Hold (checkV ks bs = if oneB ks = false then 16 else if ((mustU ks).all fun m => decide (m ∈ namesB bs)) = false then 11 else
      if ((namesB bs).all fun n => decide (n ∈ mustU ks) || decide (n ∈ mayU ks)) = false then 2 else 0) := ⟨by rw [checkV, if_neg (by rw [eP]; decide)]⟩
    generalize checkV ks bs = cv at *
    generalize namesB bs = N at *
    generalize mustU ks = U at *
    generalize mayU ks = V at *
    generalize bs.map strD = LB at *
    clear hmu hma hchk eP hs hs2 he2
    repeat (first | with_reducible refine seq_k fun K hK => ?_ | (with_reducible refine region_k fun K hK => ?_; simp [*]) | (with_reducible refine region_draw_k mixedO (by decide +kernel) fun K hK => ?_; simp [*]) | with_reducible refine pwp_block ?_ | with_reducible refine pwp_skip ?_ | with_reducible refine pwp_ret ?_ | with_reducible refine pwp_exit ?_ | (with_reducible refine cond_t ?_ ?_; (focus (simp [*]; done))) | (with_reducible refine cond_f ?_ ?_; (focus (simp [*]; done))) | with_reducible refine then_n ?_ | with_reducible refine then_r ?_ | with_reducible refine then_e ?_ | with_reducible refine then_g ?_ | with_reducible refine inB_n ?_ | with_reducible refine inB_r ?_ | with_reducible refine inB_e ?_ | with_reducible refine inB_o rfl ?_ | with_reducible refine inB_g ?_ | with_reducible refine Leads.go (by assumption) ?_)
    refine pwp_for ss.length (fun i st => st.env.n = 139 ∧ st.df = [] ∧ slots st.env [(0, .slice g e LS), (5, .slice a1 b1 (lb U)), (6, .slice a2 b2 (lb V)), (8, .slice g9 ez (lb N)), (12, .val (.int .i64 (strK (ks.take i)).length)), (13, .val (.int .i64 i))] ∧ (ks.take i).Pairwise Rel1) ?_ ?_ ?_
    · simp [*, strK]
    · clear en e0 e1 e5 e6 e9
      rintro i ⟨E, H, df⟩ h ⟨en, edf, ⟨e0, e5, e6, e8, e12, e13, -⟩, eP⟩
      simp only at en edf e0 e5 e6 e8 e12 e13
      subst edf
      have hki : (i : Int) < (ss.length : Int) := by omega
      obtain ⟨s, hc, hL, rfl, hss, hfk⟩ := kget.out i h
      have hge := get_of hL
      have hw := wrapSucc i (by omega)
      have hT := strK_succ hfk
      have hfc := fun H => FindClassR_spec s H hss
      have hc10 := hk10 _ (List.mem_of_getElem? hfk)
      have hPw : ks.take (i + 1) = ks.take i ++ [fcls s] := by rw [List.take_add_one, hfk]; rfl
      have hil : i ≤ ks.length := by omega
      have hsl2 : (strK (ks.take i)).length ≤ 1000 := by
        have h4 : (ks.take i).length ≤ i := by rw [List.length_take]; omega
        exact Nat.le_trans (List.length_filter_le _ _) (by omega)
      have hwn := wrapSucc (strK (ks.take i)).length (by omega)
      have kT := Hold.mk hT
      have kPw := Hold.mk hPw
      have kP := Hold.mk eP
      clear hT hPw eP hc hfk
      obtain ⟨nK, hnK⟩ : ∃ n, n = (strK (ks.take i)).length := ⟨_, rfl⟩
      have kn := Hold.mk hnK
      rw [← hnK] at e12 hwn hsl2
      clear hnK
      generalize hcc : fcls s = c at *
      clear hcc
      by_cases hkd : kd c = 1
      · have kT2 : Hold ((strK (ks.take (i + 1))).length = nK + 1) := ⟨by rw [kT.out, if_pos hkd, List.length_append, kn.out]; rfl⟩
        clear kT kn
        repeat (first | with_reducible refine seq_k fun K hK => ?_ | (with_reducible refine region_k fun K hK => ?_; simp [*]) | (with_reducible refine region_draw_k mixedO (by decide +kernel) fun K hK => ?_; simp [*]) | with_reducible refine pwp_block ?_ | with_reducible refine pwp_skip ?_ | with_reducible refine pwp_ret ?_ | with_reducible refine pwp_exit ?_ | (with_reducible refine cond_t ?_ ?_; (focus (simp [*]; done))) | (with_reducible refine cond_f ?_ ?_; (focus (simp [*]; done))) | with_reducible refine then_n ?_ | with_reducible refine then_r ?_ | with_reducible refine then_e ?_ | with_reducible refine then_g ?_ | with_reducible refine inB_n ?_ | with_reducible refine inB_r ?_ | with_reducible refine inB_e ?_ | with_reducible refine inB_o rfl ?_ | with_reducible refine inB_g ?_ | with_reducible refine Leads.go (by assumption) ?_)
        refine PCalls.mono (hfc _) ?_
        rintro _ H ⟨rfl, rfl⟩
        clear hfc
        try simp [*]
        repeat (first | with_reducible refine seq_k fun K hK => ?_ | (with_reducible refine region_k fun K hK => ?_; simp [*]) | (with_reducible refine region_draw_k mixedO (by decide +kernel) fun K hK => ?_; simp [*]) | with_reducible refine pwp_block ?_ | with_reducible refine pwp_skip ?_ | with_reducible refine pwp_ret ?_ | with_reducible refine pwp_exit ?_ | (with_reducible refine cond_t ?_ ?_; (focus (simp [*]; done))) | (with_reducible refine cond_f ?_ ?_; (focus (simp [*]; done))) | with_reducible refine then_n ?_ | with_reducible refine then_r ?_ | with_reducible refine then_e ?_ | with_reducible refine then_g ?_ | with_reducible refine inB_n ?_ | with_reducible refine inB_r ?_ | with_reducible refine inB_e ?_ | with_reducible refine inB_o rfl ?_ | with_reducible refine inB_g ?_ | with_reducible refine Leads.go (by assumption) ?_)
        refine pwp_for i (fun j st => st.env.n = 139 ∧ st.df = [] ∧ slots st.env [(0, .slice g 9 LS), (5, .slice a1 b1 (lb U)), (6, .slice a2 b2 (lb V)), (8, .slice g9 ez (lb N)), (12, .val (.int .i64 (nK + 1 : Nat))), (13, .val (.int .i64 i)), (14, .ptr H.nx 0), (16, .val (.int .i64 j))] ∧
          H.nx < st.H.nx ∧ st.H.get H.nx = some (.cells (cellsD (clD c))) ∧ ∀ d ∈ ks.take j, Rel1 d c) ?_ ?_ ?_
        · refine ⟨by simp [*], rfl, by simp [*], by simp, by simp [*], by simp⟩
        · generalize H.nx = bx
          clear en e0 e5 e6 e8 e12 e13 H
          rintro j ⟨E, H, df⟩ hj ⟨en, edf, ⟨e0, e5, e6, e8, e12, e13, e14, e16, -⟩, eN, eH, eR⟩
          simp only at en edf e0 e5 e6 e8 e12 e13 e14 e16 eN eH
          subst edf
          have hji : (j : Int) < (i : Int) := by omega
          have hjs : (j : Int) < (ss.length : Int) := by omega
          obtain ⟨s2, hc2, hL2, _, hss2, hfk2⟩ := kget.out j (by omega)
          have hge2 := get_of hL2
          have hwj := wrapSucc j (by omega)
          have hne : bx ≠ H.nx := by omega
          have hfc2 := fun H => FindClassR_spec s2 H hss2
          have hd10 := hk10 _ (List.mem_of_getElem? hfk2)
          have hTj : ks.take (j + 1) = ks.take j ++ [fcls s2] := by rw [List.take_add_one, hfk2]; rfl
          have hviol : kd (fcls s2) = 1 → abv c (fcls s2) = false → abv (fcls s2) c = false → oneB ks = false := fun q1 q2 q3 => by
            cases hob : oneB ks with
            | false => rfl
            | true =>
              have hp := ((oneB_iff ks).1 hob).1
              have hik : i < ks.length := by omega
              have hci : ks[i] = c := by
                have h5 : (ks.take (i + 1))[i]? = some c := by
                  have h6 : i - (ks.take i).length = 0 := by rw [List.length_take]; omega
                  rw [kPw.out, List.getElem?_append_right (by rw [List.length_take]; omega), h6]; rfl
                rw [List.getElem?_take, if_pos (by omega), List.getElem?_eq_getElem hik] at h5
                exact Option.some.inj h5
              have hjk : ks[j]'(by omega) = fcls s2 := by
                have := hfk2
                rw [List.getElem?_eq_getElem (by omega)] at this
                exact Option.some.inj this
              have := List.pairwise_iff_getElem.1 hp j i (by omega) hik (by omega)
              rw [hci, hjk] at this
              have h9 := this q1 hkd
              simp [apartB, q2, q3] at h9
          have kTj := Hold.mk hTj
          have kR := Hold.mk eR
          have kviol := Hold.mk hviol
          have hab1 := AboveR_spec hc10 hd10
          have hab2 := AboveR_spec hd10 hc10
          clear hTj eR hviol hc2 hfk2
          generalize fcls s2 = d at *
          by_cases hkd2 : kd d = 1
          · by_cases ha : abv c d = true
            · rw [ha] at hab1
              have kN : Hold (∀ d ∈ ks.take (j + 1), Rel1 d c) := ⟨fun x hx => by
                rw [kTj.out] at hx
                rcases List.mem_append.1 hx with hx | hx
                · exact kR.out x hx
                · rw [List.mem_singleton] at hx; subst hx; exact fun _ _ => by simp [apartB, ha]⟩
              clear kR kTj kviol
              clear hab2 ha
              repeat (first | with_reducible refine seq_k fun K hK => ?_ | (with_reducible refine region_k fun K hK => ?_; simp [*]) | (with_reducible refine region_draw_k mixedO (by decide +kernel) fun K hK => ?_; simp [*]) | with_reducible refine pwp_block ?_ | with_reducible refine pwp_skip ?_ | with_reducible refine pwp_ret ?_ | with_reducible refine pwp_exit ?_ | (with_reducible refine cond_t ?_ ?_; (focus (simp [*]; done))) | (with_reducible refine cond_f ?_ ?_; (focus (simp [*]; done))) | with_reducible refine then_n ?_ | with_reducible refine then_r ?_ | with_reducible refine then_e ?_ | with_reducible refine then_g ?_ | with_reducible refine inB_n ?_ | with_reducible refine inB_r ?_ | with_reducible refine inB_e ?_ | with_reducible refine inB_o rfl ?_ | with_reducible refine inB_g ?_ | with_reducible refine Leads.go (by assumption) ?_)
              refine PCalls.mono (hfc2 _) ?_
              intro d3 H3 hd3
              rw [hd3.1, hd3.2]
              clear hd3 hfc2
              try simp [*]
              repeat (first | with_reducible refine seq_k fun K hK => ?_ | (with_reducible refine region_k fun K hK => ?_; simp [*]) | (with_reducible refine region_draw_k mixedO (by decide +kernel) fun K hK => ?_; simp [*]) | with_reducible refine pwp_block ?_ | with_reducible refine pwp_skip ?_ | with_reducible refine pwp_ret ?_ | with_reducible refine pwp_exit ?_ | (with_reducible refine cond_t ?_ ?_; (focus (simp [*]; done))) | (with_reducible refine cond_f ?_ ?_; (focus (simp [*]; done))) | with_reducible refine then_n ?_ | with_reducible refine then_r ?_ | with_reducible refine then_e ?_ | with_reducible refine then_g ?_ | with_reducible refine inB_n ?_ | with_reducible refine inB_r ?_ | with_reducible refine inB_e ?_ | with_reducible refine inB_o rfl ?_ | with_reducible refine inB_g ?_ | with_reducible refine Leads.go (by assumption) ?_)
              refine PCalls.mono (hab1 _) ?_
              intro d3 H3 hd3
              rw [hd3.1, hd3.2]
              clear hd3 hab1
              try simp [*]
              repeat (first | with_reducible refine seq_k fun K hK => ?_ | (with_reducible refine region_k fun K hK => ?_; simp [*]) | (with_reducible refine region_draw_k mixedO (by decide +kernel) fun K hK => ?_; simp [*]) | with_reducible refine pwp_block ?_ | with_reducible refine pwp_skip ?_ | with_reducible refine pwp_ret ?_ | with_reducible refine pwp_exit ?_ | (with_reducible refine cond_t ?_ ?_; (focus (simp [*]; done))) | (with_reducible refine cond_f ?_ ?_; (focus (simp [*]; done))) | with_reducible refine then_n ?_ | with_reducible refine then_r ?_ | with_reducible refine then_e ?_ | with_reducible refine then_g ?_ | with_reducible refine inB_n ?_ | with_reducible refine inB_r ?_ | with_reducible refine inB_e ?_ | with_reducible refine inB_o rfl ?_ | with_reducible refine inB_g ?_ | with_reducible refine Leads.go (by assumption) ?_)
              refine ⟨by simp [*], rfl, by simp [*], by simp; omega, by simp [*], kN.out⟩
            · have ha' : abv c d = false := by simpa using ha
              rw [ha'] at hab1
              by_cases hb : abv d c = true
              · rw [hb] at hab2
                have kN : Hold (∀ d ∈ ks.take (j + 1), Rel1 d c) := ⟨fun x hx => by
                  rw [kTj.out] at hx
                  rcases List.mem_append.1 hx with hx | hx
                  · exact kR.out x hx
                  · rw [List.mem_singleton] at hx; subst hx; exact fun _ _ => by simp [apartB, hb]⟩
                clear kR kTj kviol
                clear ha ha' hb
                repeat (first | with_reducible refine seq_k fun K hK => ?_ | (with_reducible refine region_k fun K hK => ?_; simp [*]) | (with_reducible refine region_draw_k mixedO (by decide +kernel) fun K hK => ?_; simp [*]) | with_reducible refine pwp_block ?_ | with_reducible refine pwp_skip ?_ | with_reducible refine pwp_ret ?_ | with_reducible refine pwp_exit ?_ | (with_reducible refine cond_t ?_ ?_; (focus (simp [*]; done))) | (with_reducible refine cond_f ?_ ?_; (focus (simp [*]; done))) | with_reducible refine then_n ?_ | with_reducible refine then_r ?_ | with_reducible refine then_e ?_ | with_reducible refine then_g ?_ | with_reducible refine inB_n ?_ | with_reducible refine inB_r ?_ | with_reducible refine inB_e ?_ | with_reducible refine inB_o rfl ?_ | with_reducible refine inB_g ?_ | with_reducible refine Leads.go (by assumption) ?_)
                refine PCalls.mono (hfc2 _) ?_
                intro d3 H3 hd3
                rw [hd3.1, hd3.2]
                clear hd3 hfc2
                try simp [*]
                repeat (first | with_reducible refine seq_k fun K hK => ?_ | (with_reducible refine region_k fun K hK => ?_; simp [*]) | (with_reducible refine region_draw_k mixedO (by decide +kernel) fun K hK => ?_; simp [*]) | with_reducible refine pwp_block ?_ | with_reducible refine pwp_skip ?_ | with_reducible refine pwp_ret ?_ | with_reducible refine pwp_exit ?_ | (with_reducible refine cond_t ?_ ?_; (focus (simp [*]; done))) | (with_reducible refine cond_f ?_ ?_; (focus (simp [*]; done))) | with_reducible refine then_n ?_ | with_reducible refine then_r ?_ | with_reducible refine then_e ?_ | with_reducible refine then_g ?_ | with_reducible refine inB_n ?_ | with_reducible refine inB_r ?_ | with_reducible refine inB_e ?_ | with_reducible refine inB_o rfl ?_ | with_reducible refine inB_g ?_ | with_reducible refine Leads.go (by assumption) ?_)
                refine PCalls.mono (hab1 _) ?_
                intro d3 H3 hd3
                rw [hd3.1, hd3.2]
                clear hd3 hab1
                try simp [*]
                refine PCalls.mono (hab2 _) ?_
                intro d3 H3 hd3
                rw [hd3.1, hd3.2]
                clear hd3 hab2
                try simp [*]
                repeat (first | with_reducible refine seq_k fun K hK => ?_ | (with_reducible refine region_k fun K hK => ?_; simp [*]) | (with_reducible refine region_draw_k mixedO (by decide +kernel) fun K hK => ?_; simp [*]) | with_reducible refine pwp_block ?_ | with_reducible refine pwp_skip ?_ | with_reducible refine pwp_ret ?_ | with_reducible refine pwp_exit ?_ | (with_reducible refine cond_t ?_ ?_; (focus (simp [*]; done))) | (with_reducible refine cond_f ?_ ?_; (focus (simp [*]; done))) | with_reducible refine then_n ?_ | with_reducible refine then_r ?_ | with_reducible refine then_e ?_ | with_reducible refine then_g ?_ | with_reducible refine inB_n ?_ | with_reducible refine inB_r ?_ | with_reducible refine inB_e ?_ | with_reducible refine inB_o rfl ?_ | with_reducible refine inB_g ?_ | with_reducible refine Leads.go (by assumption) ?_)
                refine ⟨by simp [*], rfl, by simp [*], by simp; omega, by simp [*], kN.out⟩
              · have hb' : abv d c = false := by simpa using hb
                rw [hb'] at hab2
                have hv : cv = 16 := by rw [kv.out, if_pos (kviol.out hkd2 ha' hb')]
                clear kviol kv ha ha' hb hb' kR kTj
                repeat (first | with_reducible refine seq_k fun K hK => ?_ | (with_reducible refine region_k fun K hK => ?_; simp [*]) | (with_reducible refine region_draw_k mixedO (by decide +kernel) fun K hK => ?_; simp [*]) | with_reducible refine pwp_block ?_ | with_reducible refine pwp_skip ?_ | with_reducible refine pwp_ret ?_ | with_reducible refine pwp_exit ?_ | (with_reducible refine cond_t ?_ ?_; (focus (simp [*]; done))) | (with_reducible refine cond_f ?_ ?_; (focus (simp [*]; done))) | with_reducible refine then_n ?_ | with_reducible refine then_r ?_ | with_reducible refine then_e ?_ | with_reducible refine then_g ?_ | with_reducible refine inB_n ?_ | with_reducible refine inB_r ?_ | with_reducible refine inB_e ?_ | with_reducible refine inB_o rfl ?_ | with_reducible refine inB_g ?_ | with_reducible refine Leads.go (by assumption) ?_)
                refine PCalls.mono (hfc2 _) ?_
                intro d3 H3 hd3
                rw [hd3.1, hd3.2]
                clear hd3 hfc2
                try simp [*]
                repeat (first | with_reducible refine seq_k fun K hK => ?_ | (with_reducible refine region_k fun K hK => ?_; simp [*]) | (with_reducible refine region_draw_k mixedO (by decide +kernel) fun K hK => ?_; simp [*]) | with_reducible refine pwp_block ?_ | with_reducible refine pwp_skip ?_ | with_reducible refine pwp_ret ?_ | with_reducible refine pwp_exit ?_ | (with_reducible refine cond_t ?_ ?_; (focus (simp [*]; done))) | (with_reducible refine cond_f ?_ ?_; (focus (simp [*]; done))) | with_reducible refine then_n ?_ | with_reducible refine then_r ?_ | with_reducible refine then_e ?_ | with_reducible refine then_g ?_ | with_reducible refine inB_n ?_ | with_reducible refine inB_r ?_ | with_reducible refine inB_e ?_ | with_reducible refine inB_o rfl ?_ | with_reducible refine inB_g ?_ | with_reducible refine Leads.go (by assumption) ?_)
                refine PCalls.mono (hab1 _) ?_
                intro d3 H3 hd3
                rw [hd3.1, hd3.2]
                clear hd3 hab1
                try simp [*]
                refine PCalls.mono (hab2 _) ?_
                intro d3 H3 hd3
                rw [hd3.1, hd3.2]
                clear hd3 hab2
                try simp [*]
                repeat (first | with_reducible refine seq_k fun K hK => ?_ | (with_reducible refine region_k fun K hK => ?_; simp [*]) | (with_reducible refine region_draw_k mixedO (by decide +kernel) fun K hK => ?_; simp [*]) | with_reducible refine pwp_block ?_ | with_reducible refine pwp_skip ?_ | with_reducible refine pwp_ret ?_ | with_reducible refine pwp_exit ?_ | (with_reducible refine cond_t ?_ ?_; (focus (simp [*]; done))) | (with_reducible refine cond_f ?_ ?_; (focus (simp [*]; done))) | with_reducible refine then_n ?_ | with_reducible refine then_r ?_ | with_reducible refine then_e ?_ | with_reducible refine then_g ?_ | with_reducible refine inB_n ?_ | with_reducible refine inB_r ?_ | with_reducible refine inB_e ?_ | with_reducible refine inB_o rfl ?_ | with_reducible refine inB_g ?_ | with_reducible refine Leads.go (by assumption) ?_)
                simp [*]
          · clear hab1 hab2
            have kN : Hold (∀ d ∈ ks.take (j + 1), Rel1 d c) := ⟨fun x hx => by
              rw [kTj.out] at hx
              rcases List.mem_append.1 hx with hx | hx
              · exact kR.out x hx
              · rw [List.mem_singleton] at hx; subst hx; exact fun q _ => absurd q hkd2⟩
            clear kR kTj kviol
            repeat (first | with_reducible refine seq_k fun K hK => ?_ | (with_reducible refine region_k fun K hK => ?_; simp [*]) | (with_reducible refine region_draw_k mixedO (by decide +kernel) fun K hK => ?_; simp [*]) | with_reducible refine pwp_block ?_ | with_reducible refine pwp_skip ?_ | with_reducible refine pwp_ret ?_ | with_reducible refine pwp_exit ?_ | (with_reducible refine cond_t ?_ ?_; (focus (simp [*]; done))) | (with_reducible refine cond_f ?_ ?_; (focus (simp [*]; done))) | with_reducible refine then_n ?_ | with_reducible refine then_r ?_ | with_reducible refine then_e ?_ | with_reducible refine then_g ?_ | with_reducible refine inB_n ?_ | with_reducible refine inB_r ?_ | with_reducible refine inB_e ?_ | with_reducible refine inB_o rfl ?_ | with_reducible refine inB_g ?_ | with_reducible refine Leads.go (by assumption) ?_)
            refine PCalls.mono (hfc2 _) ?_
            intro d3 H3 hd3
            rw [hd3.1, hd3.2]
            clear hd3 hfc2
            try simp [*]
            repeat (first | with_reducible refine seq_k fun K hK => ?_ | (with_reducible refine region_k fun K hK => ?_; simp [*]) | (with_reducible refine region_draw_k mixedO (by decide +kernel) fun K hK => ?_; simp [*]) | with_reducible refine pwp_block ?_ | with_reducible refine pwp_skip ?_ | with_reducible refine pwp_ret ?_ | with_reducible refine pwp_exit ?_ | (with_reducible refine cond_t ?_ ?_; (focus (simp [*]; done))) | (with_reducible refine cond_f ?_ ?_; (focus (simp [*]; done))) | with_reducible refine then_n ?_ | with_reducible refine then_r ?_ | with_reducible refine then_e ?_ | with_reducible refine then_g ?_ | with_reducible refine inB_n ?_ | with_reducible refine inB_r ?_ | with_reducible refine inB_e ?_ | with_reducible refine inB_o rfl ?_ | with_reducible refine inB_g ?_ | with_reducible refine Leads.go (by assumption) ?_)
            refine ⟨by simp [*], rfl, by simp [*], by simp; omega, by simp [*], kN.out⟩
        · generalize H.nx = bx
          clear en e0 e5 e6 e8 e12 e13 H
          rintro ⟨E, H, df⟩ ⟨en, edf, ⟨e0, e5, e6, e8, e12, e13, e14, e16, -⟩, eN, eH, eR⟩
          simp only at en edf e0 e5 e6 e8 e12 e13 e14 e16 eN eH
          subst edf
          have kP2 : Hold ((ks.take (i + 1)).Pairwise Rel1) := ⟨by
            rw [kPw.out, List.pairwise_append]
            exact ⟨kP.out, by simp, fun a ha b hb => by rw [List.mem_singleton] at hb; subst hb; exact eR a ha⟩⟩
          clear eR kP kPw
          repeat (first | with_reducible refine seq_k fun K hK => ?_ | (with_reducible refine region_k fun K hK => ?_; simp [*]) | (with_reducible refine region_draw_k mixedO (by decide +kernel) fun K hK => ?_; simp [*]) | with_reducible refine pwp_block ?_ | with_reducible refine pwp_skip ?_ | with_reducible refine pwp_ret ?_ | with_reducible refine pwp_exit ?_ | (with_reducible refine cond_t ?_ ?_; (focus (simp [*]; done))) | (with_reducible refine cond_f ?_ ?_; (focus (simp [*]; done))) | with_reducible refine then_n ?_ | with_reducible refine then_r ?_ | with_reducible refine then_e ?_ | with_reducible refine then_g ?_ | with_reducible refine inB_n ?_ | with_reducible refine inB_r ?_ | with_reducible refine inB_e ?_ | with_reducible refine inB_o rfl ?_ | with_reducible refine inB_g ?_ | with_reducible refine Leads.go (by assumption) ?_)
          rw [kT2.out]
          refine ⟨by simp [*], rfl, by simp [*], kP2.out⟩
      · have kT2 : Hold ((strK (ks.take (i + 1))).length = nK) := ⟨by rw [kT.out, if_neg hkd, List.append_nil, kn.out]⟩
        have kP2 : Hold ((ks.take (i + 1)).Pairwise Rel1) := ⟨by
          rw [kPw.out, List.pairwise_append]
          exact ⟨kP.out, by simp, fun a _ b hb q1 q2 => by rw [List.mem_singleton] at hb; subst hb; exact absurd q2 hkd⟩⟩
        clear kT kn kP kPw
        repeat (first | with_reducible refine seq_k fun K hK => ?_ | (with_reducible refine region_k fun K hK => ?_; simp [*]) | (with_reducible refine region_draw_k mixedO (by decide +kernel) fun K hK => ?_; simp [*]) | with_reducible refine pwp_block ?_ | with_reducible refine pwp_skip ?_ | with_reducible refine pwp_ret ?_ | with_reducible refine pwp_exit ?_ | (with_reducible refine cond_t ?_ ?_; (focus (simp [*]; done))) | (with_reducible refine cond_f ?_ ?_; (focus (simp [*]; done))) | with_reducible refine then_n ?_ | with_reducible refine then_r ?_ | with_reducible refine then_e ?_ | with_reducible refine then_g ?_ | with_reducible refine inB_n ?_ | with_reducible refine inB_r ?_ | with_reducible refine inB_e ?_ | with_reducible refine inB_o rfl ?_ | with_reducible refine inB_g ?_ | with_reducible refine Leads.go (by assumption) ?_)
        refine PCalls.mono (hfc _) ?_
        rintro _ H ⟨rfl, rfl⟩
        clear hfc
        try simp [*]
        repeat (first | with_reducible refine seq_k fun K hK => ?_ | (with_reducible refine region_k fun K hK => ?_; simp [*]) | (with_reducible refine region_draw_k mixedO (by decide +kernel) fun K hK => ?_; simp [*]) | with_reducible refine pwp_block ?_ | with_reducible refine pwp_skip ?_ | with_reducible refine pwp_ret ?_ | with_reducible refine pwp_exit ?_ | (with_reducible refine cond_t ?_ ?_; (focus (simp [*]; done))) | (with_reducible refine cond_f ?_ ?_; (focus (simp [*]; done))) | with_reducible refine then_n ?_ | with_reducible refine then_r ?_ | with_reducible refine then_e ?_ | with_reducible refine then_g ?_ | with_reducible refine inB_n ?_ | with_reducible refine inB_r ?_ | with_reducible refine inB_e ?_ | with_reducible refine inB_o rfl ?_ | with_reducible refine inB_g ?_ | with_reducible refine Leads.go (by assumption) ?_)
        rw [kT2.out]
        refine ⟨by simp [*], rfl, by simp [*], kP2.out⟩
    · clear en e0 e1 e5 e6 e9
      rintro ⟨E, H, df⟩ ⟨en, edf, ⟨e0, e5, e6, e8, e12, e13, -⟩, eP⟩
      simp only at en edf e0 e5 e6 e8 e12 e13
      subst edf
      rw [← hkl2, List.take_length] at e12 eP
      have hobi := oneB_iff ks
      by_cases hs0 : strK ks = []
      · have hv : cv = 16 := by
          rw [kv.out, if_pos]
          cases hob : oneB ks with
          | false => rfl
          | true => exact absurd hs0 ((hobi.1 hob).2)
        rw [hs0] at e12
        clear kv hobi hs0
        repeat (first | with_reducible refine seq_k fun K hK => ?_ | (with_reducible refine region_k fun K hK => ?_; simp [*]) | (with_reducible refine region_draw_k mixedO (by decide +kernel) fun K hK => ?_; simp [*]) | with_reducible refine pwp_block ?_ | with_reducible refine pwp_skip ?_ | with_reducible refine pwp_ret ?_ | with_reducible refine pwp_exit ?_ | (with_reducible refine cond_t ?_ ?_; (focus (simp [*]; done))) | (with_reducible refine cond_f ?_ ?_; (focus (simp [*]; done))) | with_reducible refine then_n ?_ | with_reducible refine then_r ?_ | with_reducible refine then_e ?_ | with_reducible refine then_g ?_ | with_reducible refine inB_n ?_ | with_reducible refine inB_r ?_ | with_reducible refine inB_e ?_ | with_reducible refine inB_o rfl ?_ | with_reducible refine inB_g ?_ | with_reducible refine Leads.go (by assumption) ?_)
        simp [*]
      · have ho : oneB ks = true := hobi.2 ⟨eP, hs0⟩
        have hn0 : ¬ (strK ks).length = 0 := fun q => hs0 (List.eq_nil_of_length_eq_zero q)
        have kv2 : Hold (cv = if (U.all fun m => decide (m ∈ N)) = false then 11 else if (N.all fun n => decide (n ∈ U) || decide (n ∈ V)) = false then 2 else 0) := ⟨by rw [kv.out, if_neg (by rw [ho]; decide)]⟩
        generalize (strK ks).length = sn at *
        have hn1 : ¬ ((sn : Int) = 0) := by omega
        clear kv hobi hs0 eP ho
        repeat (first | with_reducible refine seq_k fun K hK => ?_ | (with_reducible refine region_k fun K hK => ?_; simp [*]) | (with_reducible refine region_draw_k mixedO (by decide +kernel) fun K hK => ?_; simp [*]) | with_reducible refine pwp_block ?_ | with_reducible refine pwp_skip ?_ | with_reducible refine pwp_ret ?_ | with_reducible refine pwp_exit ?_ | (with_reducible refine cond_t ?_ ?_; (focus (simp [*]; done))) | (with_reducible refine cond_f ?_ ?_; (focus (simp [*]; done))) | with_reducible refine then_n ?_ | with_reducible refine then_r ?_ | with_reducible refine then_e ?_ | with_reducible refine then_g ?_ | with_reducible refine inB_n ?_ | with_reducible refine inB_r ?_ | with_reducible refine inB_e ?_ | with_reducible refine inB_o rfl ?_ | with_reducible refine inB_g ?_ | with_reducible refine Leads.go (by assumption) ?_)
        refine pwp_for U.length (fun k st => st.env.n = 139 ∧ st.df = [] ∧ slots st.env [(5, .slice a1 b1 (lb U)), (6, .slice a2 b2 (lb V)), (8, .slice g9 ez (lb N)), (19, .val (.int .i64 k))] ∧ (U.take k).all (fun m => decide (m ∈ N)) = true) ?_ ?_ ?_
        · simp [*]
        · clear en e0 e5 e6 e8 e12 e13
          rintro k ⟨E, H, df⟩ h ⟨en, edf, ⟨e5, e6, e8, e19, -⟩, eP⟩
          simp only at en edf e5 e6 e8 e19
          subst edf
          have hki : (k : Int) < (U.length : Int) := by omega
          obtain ⟨c, hc⟩ : ∃ c, U[k]? = some c := ⟨_, List.getElem?_eq_getElem h⟩
          have hL := lb_get hc
          have hge := get_of hL
          have hLl : (lb U).length = U.length := lb_len U
          obtain rfl : b1 = 9 := q1.resolve_left (fun q => by subst q; simp at h)
          have hw := wrapSucc k (by omega)
          have hT : (U.take (k + 1)).all (fun m => decide (m ∈ N)) = decide (c ∈ N) := by rw [List.take_add_one, hc, List.all_append, eP]; simp
          have kT := Hold.mk hT
          have khc := Hold.mk (List.mem_of_getElem? hc)
          have hct := hasR_spec g9 ez N c he9 hnl
          clear hT eP hc
          generalize lb U = L at *
          repeat (first | with_reducible refine seq_k fun K hK => ?_ | (with_reducible refine region_k fun K hK => ?_; simp [*]) | (with_reducible refine region_draw_k mixedO (by decide +kernel) fun K hK => ?_; simp [*]) | with_reducible refine pwp_block ?_ | with_reducible refine pwp_skip ?_ | with_reducible refine pwp_ret ?_ | with_reducible refine pwp_exit ?_ | (with_reducible refine cond_t ?_ ?_; (focus (simp [*]; done))) | (with_reducible refine cond_f ?_ ?_; (focus (simp [*]; done))) | with_reducible refine then_n ?_ | with_reducible refine then_r ?_ | with_reducible refine then_e ?_ | with_reducible refine then_g ?_ | with_reducible refine inB_n ?_ | with_reducible refine inB_r ?_ | with_reducible refine inB_e ?_ | with_reducible refine inB_o rfl ?_ | with_reducible refine inB_g ?_ | with_reducible refine Leads.go (by assumption) ?_)
          refine PCalls.mono (hct _) ?_
          rintro _ H ⟨rfl, rfl⟩
          clear hct
          by_cases h1 : c ∈ N
          · have kT2 : Hold (List.all (U.take (k + 1)) (fun m => decide (m ∈ N)) = true) := ⟨by rw [kT.out]; simpa using h1⟩
            clear kT
            try simp [*]
            repeat (first | with_reducible refine seq_k fun K hK => ?_ | (with_reducible refine region_k fun K hK => ?_; simp [*]) | (with_reducible refine region_draw_k mixedO (by decide +kernel) fun K hK => ?_; simp [*]) | with_reducible refine pwp_block ?_ | with_reducible refine pwp_skip ?_ | with_reducible refine pwp_ret ?_ | with_reducible refine pwp_exit ?_ | (with_reducible refine cond_t ?_ ?_; (focus (simp [*]; done))) | (with_reducible refine cond_f ?_ ?_; (focus (simp [*]; done))) | with_reducible refine then_n ?_ | with_reducible refine then_r ?_ | with_reducible refine then_e ?_ | with_reducible refine then_g ?_ | with_reducible refine inB_n ?_ | with_reducible refine inB_r ?_ | with_reducible refine inB_e ?_ | with_reducible refine inB_o rfl ?_ | with_reducible refine inB_g ?_ | with_reducible refine Leads.go (by assumption) ?_)
            refine ⟨by simp [*], rfl, by simp [*], kT2.out⟩
          · have hv : cv = 11 := by
              rw [kv2.out, if_pos]
              rw [List.all_eq_false]
              exact ⟨c, khc.out, by simpa using h1⟩
            clear kT kv2
            try simp [*]
            repeat (first | with_reducible refine seq_k fun K hK => ?_ | (with_reducible refine region_k fun K hK => ?_; simp [*]) | (with_reducible refine region_draw_k mixedO (by decide +kernel) fun K hK => ?_; simp [*]) | with_reducible refine pwp_block ?_ | with_reducible refine pwp_skip ?_ | with_reducible refine pwp_ret ?_ | with_reducible refine pwp_exit ?_ | (with_reducible refine cond_t ?_ ?_; (focus (simp [*]; done))) | (with_reducible refine cond_f ?_ ?_; (focus (simp [*]; done))) | with_reducible refine then_n ?_ | with_reducible refine then_r ?_ | with_reducible refine then_e ?_ | with_reducible refine then_g ?_ | with_reducible refine inB_n ?_ | with_reducible refine inB_r ?_ | with_reducible refine inB_e ?_ | with_reducible refine inB_o rfl ?_ | with_reducible refine inB_g ?_ | with_reducible refine Leads.go (by assumption) ?_)
            simp [*]
        · clear en e0 e5 e6 e8 e12 e13
          rintro ⟨E, H, df⟩ ⟨en, edf, ⟨e5, e6, e8, e19, -⟩, eP⟩
          simp only at en edf e5 e6 e8 e19
          subst edf
          rw [List.take_length] at eP
          have kv3 : Hold (cv = if (N.all fun n => decide (n ∈ U) || decide (n ∈ V)) = false then 2 else 0) := ⟨by rw [kv2.out, if_neg (by rw [eP]; decide)]⟩
          clear kv2 eP
          repeat (first | with_reducible refine seq_k fun K hK => ?_ | (with_reducible refine region_k fun K hK => ?_; simp [*]) | (with_reducible refine region_draw_k mixedO (by decide +kernel) fun K hK => ?_; simp [*]) | with_reducible refine pwp_block ?_ | with_reducible refine pwp_skip ?_ | with_reducible refine pwp_ret ?_ | with_reducible refine pwp_exit ?_ | (with_reducible refine cond_t ?_ ?_; (focus (simp [*]; done))) | (with_reducible refine cond_f ?_ ?_; (focus (simp [*]; done))) | with_reducible refine then_n ?_ | with_reducible refine then_r ?_ | with_reducible refine then_e ?_ | with_reducible refine then_g ?_ | with_reducible refine inB_n ?_ | with_reducible refine inB_r ?_ | with_reducible refine inB_e ?_ | with_reducible refine inB_o rfl ?_ | with_reducible refine inB_g ?_ | with_reducible refine Leads.go (by assumption) ?_)
          refine pwp_for N.length (fun k st => st.env.n = 139 ∧ st.df = [] ∧ slots st.env [(5, .slice a1 b1 (lb U)), (6, .slice a2 b2 (lb V)), (8, .slice g9 ez (lb N)), (20, .val (.int .i64 k))] ∧ (N.take k).all (fun n => decide (n ∈ U) || decide (n ∈ V)) = true) ?_ ?_ ?_
          · simp [*]
          · clear en e5 e6 e8 e19
            rintro k ⟨E, H, df⟩ h ⟨en, edf, ⟨e5, e6, e8, e20, -⟩, eP⟩
            simp only at en edf e5 e6 e8 e20
            subst edf
            have hki : (k : Int) < (N.length : Int) := by omega
            obtain ⟨c, hc⟩ : ∃ c, N[k]? = some c := ⟨_, List.getElem?_eq_getElem h⟩
            have hL := lb_get hc
            have hge := get_of hL
            have hLl : (lb N).length = N.length := lb_len N
            obtain rfl : ez = 9 := he9.resolve_left (fun q => by subst q; simp at h)
            have hw := wrapSucc k (by omega)
            have hT : (N.take (k + 1)).all (fun n => decide (n ∈ U) || decide (n ∈ V)) = (decide (c ∈ U) || decide (c ∈ V)) := by rw [List.take_add_one, hc, List.all_append, eP]; simp
            have kT := Hold.mk hT
            have khc := Hold.mk (List.mem_of_getElem? hc)
            have hct := hasR_spec a1 b1 U c q1 hmu2
            have hct2 := hasR_spec a2 b2 V c q2 hma2
            clear hT eP hc
            generalize lb N = L at *
            repeat (first | with_reducible refine seq_k fun K hK => ?_ | (with_reducible refine region_k fun K hK => ?_; simp [*]) | (with_reducible refine region_draw_k mixedO (by decide +kernel) fun K hK => ?_; simp [*]) | with_reducible refine pwp_block ?_ | with_reducible refine pwp_skip ?_ | with_reducible refine pwp_ret ?_ | with_reducible refine pwp_exit ?_ | (with_reducible refine cond_t ?_ ?_; (focus (simp [*]; done))) | (with_reducible refine cond_f ?_ ?_; (focus (simp [*]; done))) | with_reducible refine then_n ?_ | with_reducible refine then_r ?_ | with_reducible refine then_e ?_ | with_reducible refine then_g ?_ | with_reducible refine inB_n ?_ | with_reducible refine inB_r ?_ | with_reducible refine inB_e ?_ | with_reducible refine inB_o rfl ?_ | with_reducible refine inB_g ?_ | with_reducible refine Leads.go (by assumption) ?_)
            refine PCalls.mono (hct _) ?_
            rintro _ H ⟨rfl, rfl⟩
            clear hct
            by_cases h1 : c ∈ U
            · have kT2 : Hold (List.all (N.take (k + 1)) (fun n => decide (n ∈ U) || decide (n ∈ V)) = true) := ⟨by rw [kT.out]; simp [h1]⟩
              clear kT hct2
              try simp [*]
              repeat (first | with_reducible refine seq_k fun K hK => ?_ | (with_reducible refine region_k fun K hK => ?_; simp [*]) | (with_reducible refine region_draw_k mixedO (by decide +kernel) fun K hK => ?_; simp [*]) | with_reducible refine pwp_block ?_ | with_reducible refine pwp_skip ?_ | with_reducible refine pwp_ret ?_ | with_reducible refine pwp_exit ?_ | (with_reducible refine cond_t ?_ ?_; (focus (simp [*]; done))) | (with_reducible refine cond_f ?_ ?_; (focus (simp [*]; done))) | with_reducible refine then_n ?_ | with_reducible refine then_r ?_ | with_reducible refine then_e ?_ | with_reducible refine then_g ?_ | with_reducible refine inB_n ?_ | with_reducible refine inB_r ?_ | with_reducible refine inB_e ?_ | with_reducible refine inB_o rfl ?_ | with_reducible refine inB_g ?_ | with_reducible refine Leads.go (by assumption) ?_)
              refine ⟨by simp [*], rfl, by simp [*], kT2.out⟩
            · by_cases h2 : c ∈ V
              · have kT2 : Hold (List.all (N.take (k + 1)) (fun n => decide (n ∈ U) || decide (n ∈ V)) = true) := ⟨by rw [kT.out]; simp [h2]⟩
                rw [show decide (c ∈ V) = true by simpa using h2] at hct2
                rw [show decide (c ∈ U) = false by simpa using h1]
                clear kT h1 h2
                try simp [*]
                refine PCalls.mono (hct2 _) ?_
                intro d3 H3 hd3
                rw [hd3.1, hd3.2]
                clear hd3 hct2
                try simp [*]
                repeat (first | with_reducible refine seq_k fun K hK => ?_ | (with_reducible refine region_k fun K hK => ?_; simp [*]) | (with_reducible refine region_draw_k mixedO (by decide +kernel) fun K hK => ?_; simp [*]) | with_reducible refine pwp_block ?_ | with_reducible refine pwp_skip ?_ | with_reducible refine pwp_ret ?_ | with_reducible refine pwp_exit ?_ | (with_reducible refine cond_t ?_ ?_; (focus (simp [*]; done))) | (with_reducible refine cond_f ?_ ?_; (focus (simp [*]; done))) | with_reducible refine then_n ?_ | with_reducible refine then_r ?_ | with_reducible refine then_e ?_ | with_reducible refine then_g ?_ | with_reducible refine inB_n ?_ | with_reducible refine inB_r ?_ | with_reducible refine inB_e ?_ | with_reducible refine inB_o rfl ?_ | with_reducible refine inB_g ?_ | with_reducible refine Leads.go (by assumption) ?_)
                refine ⟨by simp [*], rfl, by simp [*], kT2.out⟩
              · have hv : cv = 2 := by
                  rw [kv3.out, if_pos]
                  rw [List.all_eq_false]
                  exact ⟨c, khc.out, by simp [h1, h2]⟩
                rw [show decide (c ∈ V) = false by simpa using h2] at hct2
                rw [show decide (c ∈ U) = false by simpa using h1]
                clear kT kv3 h1 h2
                try simp [*]
                refine PCalls.mono (hct2 _) ?_
                intro d3 H3 hd3
                rw [hd3.1, hd3.2]
                clear hd3 hct2
                try simp [*]
                repeat (first | with_reducible refine seq_k fun K hK => ?_ | (with_reducible refine region_k fun K hK => ?_; simp [*]) | (with_reducible refine region_draw_k mixedO (by decide +kernel) fun K hK => ?_; simp [*]) | with_reducible refine pwp_block ?_ | with_reducible refine pwp_skip ?_ | with_reducible refine pwp_ret ?_ | with_reducible refine pwp_exit ?_ | (with_reducible refine cond_t ?_ ?_; (focus (simp [*]; done))) | (with_reducible refine cond_f ?_ ?_; (focus (simp [*]; done))) | with_reducible refine then_n ?_ | with_reducible refine then_r ?_ | with_reducible refine then_e ?_ | with_reducible refine then_g ?_ | with_reducible refine inB_n ?_ | with_reducible refine inB_r ?_ | with_reducible refine inB_e ?_ | with_reducible refine inB_o rfl ?_ | with_reducible refine inB_g ?_ | with_reducible refine Leads.go (by assumption) ?_)
                simp [*]
          · clear en e5 e6 e8 e19
            rintro ⟨E, H, df⟩ ⟨en, edf, ⟨e5, e6, e8, e20, -⟩, eP⟩
            simp only at en edf e5 e6 e8 e20
            subst edf
            rw [List.take_length] at eP
            have hv : cv = 0 := by rw [kv3.out, if_neg (by rw [eP]; decide)]
            have hLl : (lb N).length = N.length := lb_len N
            clear kv3 eP
            repeat (first | with_reducible refine seq_k fun K hK => ?_ | (with_reducible refine region_k fun K hK => ?_; simp [*]) | (with_reducible refine region_draw_k mixedO (by decide +kernel) fun K hK => ?_; simp [*]) | with_reducible refine pwp_block ?_ | with_reducible refine pwp_skip ?_ | with_reducible refine pwp_ret ?_ | with_reducible refine pwp_exit ?_ | (with_reducible refine cond_t ?_ ?_; (focus (simp [*]; done))) | (with_reducible refine cond_f ?_ ?_; (focus (simp [*]; done))) | with_reducible refine then_n ?_ | with_reducible refine then_r ?_ | with_reducible refine then_e ?_ | with_reducible refine then_g ?_ | with_reducible refine inB_n ?_ | with_reducible refine inB_r ?_ | with_reducible refine inB_e ?_ | with_reducible refine inB_o rfl ?_ | with_reducible refine inB_g ?_ | with_reducible refine Leads.go (by assumption) ?_)
            simp [*]
set_option maxHeartbeats 8000000 in
set_option maxRecDepth 100000 in
theorem CheckR_bad (g g2 : Nat) (e e2 : TypeId) (ss bs : List ByteArray) (he : ss = [] ∨ e = 9) (hs : ∀ s ∈ ss, s.size ≤ 140737488351232) (hl : ss.length ≤ 1000) (hok : okAll ss = false) :
    PCalls Try.prog 23 [.slice g e (ss.map strD), .slice g2 e2 (bs.map strD)] (noHeap noG) fun d _ => d = .val (.int .i64 13) := by
  refine PCalls.of_pwp Try.call23 Try.func23 rfl (by simp [Try.ntmps23]) ?_
  rw [Try.ntmps23]
  have hAll := AllR_spec g e ss he hs hl
  generalize hLS : ss.map strD = LS at *
  repeat (first | with_reducible refine seq_k fun K hK => ?_ | (with_reducible refine region_k fun K hK => ?_; simp [*]) | (with_reducible refine region_draw_k mixedO (by decide +kernel) fun K hK => ?_; simp [*]) | with_reducible refine pwp_block ?_ | with_reducible refine pwp_skip ?_ | with_reducible refine pwp_ret ?_ | with_reducible refine pwp_exit ?_ | (with_reducible refine cond_t ?_ ?_; (focus (simp [*]; done))) | (with_reducible refine cond_f ?_ ?_; (focus (simp [*]; done))) | with_reducible refine then_n ?_ | with_reducible refine then_r ?_ | with_reducible refine then_e ?_ | with_reducible refine then_g ?_ | with_reducible refine inB_n ?_ | with_reducible refine inB_r ?_ | with_reducible refine inB_e ?_ | with_reducible refine inB_o rfl ?_ | with_reducible refine inB_g ?_ | with_reducible refine Leads.go (by assumption) ?_)
  refine PCalls.mono (hAll _) ?_
  rintro r _ ⟨hr, rfl⟩
  rw [AllRes, if_neg (by rw [hok]; decide)] at hr
  subst hr
  try simp [*]
  repeat (first | with_reducible refine seq_k fun K hK => ?_ | (with_reducible refine region_k fun K hK => ?_; simp [*]) | (with_reducible refine region_draw_k mixedO (by decide +kernel) fun K hK => ?_; simp [*]) | with_reducible refine pwp_block ?_ | with_reducible refine pwp_skip ?_ | with_reducible refine pwp_ret ?_ | with_reducible refine pwp_exit ?_ | (with_reducible refine cond_t ?_ ?_; (focus (simp [*]; done))) | (with_reducible refine cond_f ?_ ?_; (focus (simp [*]; done))) | with_reducible refine then_n ?_ | with_reducible refine then_r ?_ | with_reducible refine then_e ?_ | with_reducible refine then_g ?_ | with_reducible refine inB_n ?_ | with_reducible refine inB_r ?_ | with_reducible refine inB_e ?_ | with_reducible refine inB_o rfl ?_ | with_reducible refine inB_g ?_ | with_reducible refine Leads.go (by assumption) ?_)
  simp [*]
theorem CheckR_spec (g g2 : Nat) (e e2 : TypeId) (ss bs : List ByteArray) (he : ss = [] ∨ e = 9) (he2 : bs = [] ∨ e2 = 9) (hs : ∀ s ∈ ss, s.size ≤ 140737488351232) (hs2 : ∀ s ∈ bs, s.size ≤ 140737488351232) (hl : ss.length ≤ 1000) (hl2 : bs.length ≤ 100000) (H : Heap) :
    PCalls Try.prog 23 [.slice g e (ss.map strD), .slice g2 e2 (bs.map strD)] H fun d H' => d = .val (.int .i64 (checkR ss bs)) ∧ H' = H := by
  refine PCalls.liftG ?_ (fun d hd => by simp only [List.mem_cons, List.mem_nil_iff, or_false] at hd; rcases hd with rfl | rfl <;> exact pure_strs _ _ _) (.val _) H
  by_cases hok : okAll ss = true
  · rw [checkR, if_pos hok]
    exact CheckR_local g g2 e e2 ss bs he he2 hs hs2 hl hl2 hok
  · rw [checkR, if_neg hok]
    exact CheckR_bad g g2 e e2 ss bs he hs hl (by simpa using hok)
end Go.Pv
