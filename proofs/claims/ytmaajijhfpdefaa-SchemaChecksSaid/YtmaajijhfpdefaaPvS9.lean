/- A part of the proof: functions of the program, walked, or what operations come to. -/
import Derived.Test.YtmaajijhfpdefaaPvS9b
import Derived.Test.YtmaajijhfpdefaaPvMore
namespace Go.Pv
open Go.Proofs
attribute [local simp] Try.underlying29 Try.underlying31 Try.underlying41 Try.underlying46 Heap.new_get Heap.put_get strD
@[simp] theorem res18 : Try.f18.results.toList = [.cell 2 29, .tmp 3, .tmp 4] := rfl
@[simp] theorem ze29 : zeroElem Try.prog 29 = some (.slice 1 0 []) := by kernel_rfl
theorem mustL_succ {ks : List Nat} {k c : Nat} (h : ks[k]? = some c) : mustL (ks.take (k + 1)) = mustL (ks.take k) ++ (ch c).flatMap mu := by
  rw [List.take_add_one, h, mustL, List.flatMap_append]; simp [mustL]
theorem mayL_succ {ks : List Nat} {k c : Nat} (h : ks[k]? = some c) : mayL (ks.take (k + 1)) = mayL (ks.take k) ++ (ch c).flatMap ma := by
  rw [List.take_add_one, h, mayL, List.flatMap_append]; simp [mayL]
theorem flat_succ {α : Type} (f : Nat → List α) {l : List Nat} {q x : Nat} (h : l[q]? = some x) : (l.take (q + 1)).flatMap f = (l.take q).flatMap f ++ f x := by
  rw [List.take_add_one, h, List.flatMap_append]; simp
def byts (l : List ByteArray) : List (List UInt8) := l.map fun s => s.data.toList
theorem lbs_lb (l : List ByteArray) : lbs l = lb (byts l) := by
  simp only [lbs, lb, byts, List.map_map]
  refine List.map_congr_left fun s _ => ?_
  rfl
theorem byts_len (l : List ByteArray) : (byts l).length = l.length := by simp [byts]
theorem mustL_ne {ks : List Nat} (h : ks ≠ []) (h10 : ∀ k ∈ ks, k < 10) : byts (mustL ks) ≠ [] := by
  obtain ⟨k, l, rfl⟩ := List.exists_cons_of_ne_nil h
  have hk := h10 k (by simp)
  have : (ch k).flatMap mu ≠ [] := by
    have : k = 0 ∨ k = 1 ∨ k = 2 ∨ k = 3 ∨ k = 4 ∨ k = 5 ∨ k = 6 ∨ k = 7 ∨ k = 8 ∨ k = 9 := by omega
    rcases this with rfl | rfl | rfl | rfl | rfl | rfl | rfl | rfl | rfl | rfl <;> simp [ch, mu]
  rw [byts, mustL, List.flatMap_cons]
  simp only [ne_eq, List.map_eq_nil_iff, List.append_eq_nil_iff, not_and]
  exact fun q => absurd q this
theorem fz_lb {P : Program} (n : Nat) (H : Heap) : ∀ l : List (List UInt8), mapO (fz P (n + 1) H) (lb l) = some (lb l)
  | [] => rfl
  | s :: l => by
    show mapO _ (_ :: lb l) = _
    rw [mapO, fz_lb n H l]; rfl
theorem fz_strow {P : Program} (n : Nat) {H : Heap} {i : Nat} {L : List D} {u : List (List UInt8)} (hi : H.get i = some (.row 9 L)) (hL : L.take u.length = lb u) : fz P (n + 2) H (.row i 9 0 u.length) = some (.slice (if u.length = 0 then 3 else 0) 9 (lb u)) := by
  rw [fz]
  have : u.length ≤ L.length := by
    have := congrArg List.length hL
    simp at this; omega
  simp only [hi]
  rw [if_pos ⟨trivial, by omega⟩, List.drop_zero, hL, fz_lb]
theorem fz_three {P : Program} {n : Nat} {H : Heap} {d1 d2 r1 r2 : D} {v : Value} (h1 : fz P (n + 1) H d1 = some r1) (h2 : fz P (n + 1) H d2 = some r2) : fz P (n + 2) H (.tup [d1, d2, .val v]) = some (.tup [r1, r2, .val v]) := by
  rw [fz]
  simp only [mapO, h1, h2]
  rfl
theorem fz_nil {P : Program} (n : Nat) (H : Heap) : fz P (n + 1) H (.slice 1 0 []) = some (.slice 1 0 []) := rfl
theorem uniq_nil : uniq [] = [] := List.eq_nil_of_length_eq_zero (by have := uniq_len []; simpa using this)
/-- A slice of texts, told for good. -/
def strsD (l : List (List UInt8)) (d : D) : Prop := ∃ g e, d = .slice g e (lb l) ∧ (l = [] ∨ e = 9)
theorem once_nil (H : Heap) : PCalls Try.prog 28 [.slice 1 0 []] H fun d H' => d = .slice 1 0 [] ∧ H' = H :=
  PCalls.liftG (runFz_spec (n := 50) mixedO (by kernel_rfl)) (fun d hd => by simp only [List.mem_cons, List.mem_nil_iff, or_false] at hd; subst hd; exact .slice _ _ _ fun d hd => by cases hd) (.slice _ _ _ fun d hd => by cases hd) H
set_option maxHeartbeats 4000000 in
set_option maxRecDepth 100000 in
theorem indexFunc_nil (c : D) (H : Heap) : PCalls Try.prog 39 [.slice 1 0 [], c] H fun d H' => d = .val (.int .i64 (-1)) ∧ H' = H := by
  refine PCalls.of_pwp Try.call39 Try.func39 rfl (by simp [Try.ntmps39]) ?_
  rw [Try.ntmps39]
  repeat (first | with_reducible refine seq_k fun K hK => ?_ | (with_reducible refine region_k fun K hK => ?_; simp [*]) | with_reducible refine pwp_block ?_ | with_reducible refine pwp_skip ?_ | with_reducible refine pwp_ret ?_ | with_reducible refine pwp_exit ?_ | (with_reducible refine cond_t ?_ ?_; (focus (simp [*]; done))) | (with_reducible refine cond_f ?_ ?_; (focus (simp [*]; done))) | with_reducible refine then_n ?_ | with_reducible refine then_r ?_ | with_reducible refine then_e ?_ | with_reducible refine then_g ?_ | with_reducible refine inB_n ?_ | with_reducible refine inB_r ?_ | with_reducible refine inB_e ?_ | with_reducible refine inB_o rfl ?_ | with_reducible refine inB_g ?_ | with_reducible refine Leads.go (by assumption) ?_)
  refine pwp_loop (fun m st => st.env.n = 19 ∧ st.df = [] ∧ st.H = H ∧ st.env.get 7 = .val (.int .i64 0) ∧ st.env.get 8 = .val (.int .i64 0)) 0 ?_ ?_
  · simp
  · rintro m ⟨E, H2, df⟩ ⟨en, edf, eH, e7, e8⟩
    simp only at en edf eH e7 e8
    subst edf; subst eH
    repeat (first | with_reducible refine seq_k fun K hK => ?_ | (with_reducible refine region_k fun K hK => ?_; simp [*]) | with_reducible refine pwp_block ?_ | with_reducible refine pwp_skip ?_ | with_reducible refine pwp_ret ?_ | with_reducible refine pwp_exit ?_ | (with_reducible refine cond_t ?_ ?_; (focus (simp [*]; done))) | (with_reducible refine cond_f ?_ ?_; (focus (simp [*]; done))) | with_reducible refine then_n ?_ | with_reducible refine then_r ?_ | with_reducible refine then_e ?_ | with_reducible refine then_g ?_ | with_reducible refine inB_n ?_ | with_reducible refine inB_r ?_ | with_reducible refine inB_e ?_ | with_reducible refine inB_o rfl ?_ | with_reducible refine inB_g ?_ | with_reducible refine Leads.go (by assumption) ?_)
    simp [*]
set_option maxHeartbeats 4000000 in
set_option maxRecDepth 100000 in
theorem deleteFunc_nil (c : D) (H : Heap) : PCalls Try.prog 29 [.slice 1 0 [], c] H fun d H' => d = .slice 1 0 [] ∧ H' = H := by
  refine PCalls.of_pwp Try.call29 Try.func29 rfl (by simp [Try.ntmps29]) ?_
  rw [Try.ntmps29]
  repeat (first | with_reducible refine seq_k fun K hK => ?_ | (with_reducible refine region_k fun K hK => ?_; simp [*]) | with_reducible refine pwp_block ?_ | with_reducible refine pwp_skip ?_ | with_reducible refine pwp_ret ?_ | with_reducible refine pwp_exit ?_ | (with_reducible refine cond_t ?_ ?_; (focus (simp [*]; done))) | (with_reducible refine cond_f ?_ ?_; (focus (simp [*]; done))) | with_reducible refine then_n ?_ | with_reducible refine then_r ?_ | with_reducible refine then_e ?_ | with_reducible refine then_g ?_ | with_reducible refine inB_n ?_ | with_reducible refine inB_r ?_ | with_reducible refine inB_e ?_ | with_reducible refine inB_o rfl ?_ | with_reducible refine inB_g ?_ | with_reducible refine Leads.go (by assumption) ?_)
  refine PCalls.mono (indexFunc_nil c H) ?_
  rintro _ _ ⟨rfl, rfl⟩
  try simp
  repeat (first | with_reducible refine seq_k fun K hK => ?_ | (with_reducible refine region_k fun K hK => ?_; simp [*]) | with_reducible refine pwp_block ?_ | with_reducible refine pwp_skip ?_ | with_reducible refine pwp_ret ?_ | with_reducible refine pwp_exit ?_ | (with_reducible refine cond_t ?_ ?_; (focus (simp [*]; done))) | (with_reducible refine cond_f ?_ ?_; (focus (simp [*]; done))) | with_reducible refine then_n ?_ | with_reducible refine then_r ?_ | with_reducible refine then_e ?_ | with_reducible refine then_g ?_ | with_reducible refine inB_n ?_ | with_reducible refine inB_r ?_ | with_reducible refine inB_e ?_ | with_reducible refine inB_o rfl ?_ | with_reducible refine inB_g ?_ | with_reducible refine Leads.go (by assumption) ?_)
  simp [*]
theorem lb_take (u p : List (List UInt8)) : (lb (u ++ p)).take u.length = lb u := by
  rw [lb, List.map_append, List.take_append_of_le_length (by simp), List.take_of_length_le (by simp)]
  rfl
def mustU (ks : List Nat) : List (List UInt8) := uniq (byts (mustL ks))
def mayU (ks : List Nat) : List (List UInt8) := rest (uniq (byts (mayL ks))) (mustU ks)
def AllPost (ks : List Nat) (d : D) : Prop := ∃ d1 d2, d = .tup [d1, d2, .val (.int .i64 0)] ∧ strsD (mustU ks) d1 ∧ strsD (mayU ks) d2
set_option maxHeartbeats 8000000 in
set_option maxRecDepth 100000 in
theorem All_local (g : Nat) (e : TypeId) (ss : List ByteArray) (he : ss = [] ∨ e = 9) (hs : ∀ s ∈ ss, s.size ≤ 140737488351232) (hl : ss.length ≤ 1000) (hok : okAll ss = true) (hne : ss ≠ []) : PCalls Try.prog 18 [.slice g e (ss.map strD)] (noHeap noG) fun d H' => ∃ r, fz Try.prog 20 H' d = some r ∧ AllPost (ss.map fcls) r := by
  refine PCalls.of_pwp Try.call18 Try.func18 rfl (by simp [Try.ntmps18]) ?_
  rw [Try.ntmps18]
  have hf := found_spec g e ss he hs (by omega)
  have hcl : clsD (ss.map fcls) = .slice 0 31 ((ss.map fcls).map clD) := by
    rw [clsD, if_neg (by cases ss <;> simp_all)]
  obtain ⟨ks, hks⟩ : ∃ ks, ks = ss.map fcls := ⟨_, rfl⟩
  have hkl : ks.length = ss.length := by rw [hks]; simp
  have hk10 : ∀ k ∈ ks, k < 10 := by
    rw [hks]; intro k hk
    obtain ⟨s, hs, rfl⟩ := List.mem_map.1 hk
    have := List.all_eq_true.1 hok s hs
    simpa using this
  have hks0 : ks ≠ [] := by rw [hks]; simpa using hne
  rw [← hks] at hcl ⊢
  have hfd : foundD ss = .tup [.slice 0 31 (ks.map clD), .val (.bool true)] := by rw [foundD, hok, ← hks, hcl]; rfl
  rw [hfd] at hf
  generalize ss.map strD = LS at *
  have hkl2 : ks.length ≤ 1000 := by omega
  clear hks hkl hfd hcl
  repeat (first | with_reducible refine seq_k fun K hK => ?_ | (with_reducible refine region_k fun K hK => ?_; simp [*]) | with_reducible refine pwp_block ?_ | with_reducible refine pwp_skip ?_ | with_reducible refine pwp_ret ?_ | with_reducible refine pwp_exit ?_ | (with_reducible refine cond_t ?_ ?_; (focus (simp [*]; done))) | (with_reducible refine cond_f ?_ ?_; (focus (simp [*]; done))) | with_reducible refine then_n ?_ | with_reducible refine then_r ?_ | with_reducible refine then_e ?_ | with_reducible refine then_g ?_ | with_reducible refine inB_n ?_ | with_reducible refine inB_r ?_ | with_reducible refine inB_e ?_ | with_reducible refine inB_o rfl ?_ | with_reducible refine inB_g ?_ | with_reducible refine Leads.go (by assumption) ?_)
  refine PCalls.mono (hf _) ?_
  rintro _ H ⟨rfl, rfl⟩
  clear hf
  try simp [*]
  repeat (first | with_reducible refine seq_k fun K hK => ?_ | (with_reducible refine region_k fun K hK => ?_; simp [*]) | with_reducible refine pwp_block ?_ | with_reducible refine pwp_skip ?_ | with_reducible refine pwp_ret ?_ | with_reducible refine pwp_exit ?_ | (with_reducible refine cond_t ?_ ?_; (focus (simp [*]; done))) | (with_reducible refine cond_f ?_ ?_; (focus (simp [*]; done))) | with_reducible refine then_n ?_ | with_reducible refine then_r ?_ | with_reducible refine then_e ?_ | with_reducible refine then_g ?_ | with_reducible refine inB_n ?_ | with_reducible refine inB_r ?_ | with_reducible refine inB_e ?_ | with_reducible refine inB_o rfl ?_ | with_reducible refine inB_g ?_ | with_reducible refine Leads.go (by assumption) ?_)
  refine pwp_for ks.length (fun k st => st.env.n = 49 ∧ st.df = [] ∧ slots st.env [(2, .ptr 0 0), (18, .slice 0 31 (ks.map clD)), (19, .val (.int .i64 ks.length)), (20, .val (.int .i64 k))] ∧
    Gath st.H (st.env.get 3) (mustL (ks.take k)) (mayL (ks.take k))) ?_ ?_ ?_
  · refine ⟨by simp, rfl, by simp [slots]; rfl, ?_⟩
    simp
    exact ⟨Nat.zero_lt_succ _, .slice 1 0 [], Heap.new_same _ _, .inl ⟨rfl, rfl⟩, .inl ⟨rfl, rfl⟩, fun i j a b h => by cases h⟩
  · rintro k ⟨E, H, df⟩ h ⟨en, edf, ⟨e2, e18, e19, e20, -⟩, eG⟩
    simp only at en edf e2 e18 e19 e20 eG
    subst edf
    obtain ⟨y, e3⟩ : ∃ y, E.get 3 = y := ⟨_, rfl⟩
    rw [e3] at eG
    have hki : (k : Int) < (ks.length : Int) := by omega
    obtain ⟨c, hc⟩ : ∃ c, ks[k]? = some c := ⟨_, List.getElem?_eq_getElem h⟩
    have hc10 := hk10 c (List.mem_of_getElem? hc)
    have hL : (ks.map clD)[k]? = some (clD c) := by rw [List.getElem?_map, hc]; rfl
    have hge : ∀ h, (ks.map clD)[k]'h = clD c := fun h => by have := hL; rw [List.getElem?_eq_getElem h] at this; exact Option.some.inj this
    have hLl : (ks.map clD).length = ks.length := by simp
    generalize ks.map clD = LK at *
    have hw := wrapSucc k (by omega)
    have hch := chain_spec c hc10
    repeat (first | with_reducible refine seq_k fun K hK => ?_ | (with_reducible refine region_k fun K hK => ?_; simp [*]) | with_reducible refine pwp_block ?_ | with_reducible refine pwp_skip ?_ | with_reducible refine pwp_ret ?_ | with_reducible refine pwp_exit ?_ | (with_reducible refine cond_t ?_ ?_; (focus (simp [*]; done))) | (with_reducible refine cond_f ?_ ?_; (focus (simp [*]; done))) | with_reducible refine then_n ?_ | with_reducible refine then_r ?_ | with_reducible refine then_e ?_ | with_reducible refine then_g ?_ | with_reducible refine inB_n ?_ | with_reducible refine inB_r ?_ | with_reducible refine inB_e ?_ | with_reducible refine inB_o rfl ?_ | with_reducible refine inB_g ?_ | with_reducible refine Leads.go (by assumption) ?_)
    refine PCalls.mono (hch _) ?_
    rintro _ _ ⟨rfl, rfl⟩
    clear hch
    try simp [*]
    repeat (first | with_reducible refine seq_k fun K hK => ?_ | (with_reducible refine region_k fun K hK => ?_; simp [*]) | with_reducible refine pwp_block ?_ | with_reducible refine pwp_skip ?_ | with_reducible refine pwp_ret ?_ | with_reducible refine pwp_exit ?_ | (with_reducible refine cond_t ?_ ?_; (focus (simp [*]; done))) | (with_reducible refine cond_f ?_ ?_; (focus (simp [*]; done))) | with_reducible refine then_n ?_ | with_reducible refine then_r ?_ | with_reducible refine then_e ?_ | with_reducible refine then_g ?_ | with_reducible refine inB_n ?_ | with_reducible refine inB_r ?_ | with_reducible refine inB_e ?_ | with_reducible refine inB_o rfl ?_ | with_reducible refine inB_g ?_ | with_reducible refine Leads.go (by assumption) ?_)
    refine pwp_for (ch c).length (fun q st => st.env.n = 49 ∧ st.df = [] ∧ slots st.env [(2, .ptr 0 0), (18, .slice 0 31 LK), (19, .val (.int .i64 ks.length)), (20, .val (.int .i64 k)), (25, .slice 0 31 ((ch c).map clD)), (26, .val (.int .i64 (ch c).length)), (27, .val (.int .i64 q))] ∧
      Gath st.H (st.env.get 3) (mustL (ks.take k) ++ ((ch c).take q).flatMap mu) (mayL (ks.take k) ++ ((ch c).take q).flatMap ma)) ?_ ?_ ?_
    · refine ⟨by simp [*], rfl, by simp [*], ?_⟩
      simp [*]
      exact gath_keep eG (fun j hj => by rw [Heap.put_ne _ _ (by omega), Heap.new_ne _ _ (by omega)]) (by simp)
    · clear e2 e18 e19 e20 e3 en eG y E H
      rintro q ⟨E, H, df⟩ h ⟨en, edf, ⟨e2, e18, e19, e20, e25, e26, e27, -⟩, eG⟩
      simp only at en edf e2 e18 e19 e20 e25 e26 e27 eG
      subst edf
      obtain ⟨y, e3⟩ : ∃ y, E.get 3 = y := ⟨_, rfl⟩
      rw [e3] at eG
      have hqi : (q : Int) < ((ch c).length : Int) := by omega
      obtain ⟨x, hx⟩ : ∃ x, (ch c)[q]? = some x := ⟨_, List.getElem?_eq_getElem h⟩
      have hL2 : ((ch c).map clD)[q]? = some (clD x) := by rw [List.getElem?_map, hx]; rfl
      have hge2 : ∀ h, ((ch c).map clD)[q]'h = clD x := fun h => by have := hL2; rw [List.getElem?_eq_getElem h] at this; exact Option.some.inj this
      have hLl2 : ((ch c).map clD).length = (ch c).length := by simp
      have hu := flat_succ mu hx
      have hm := flat_succ ma hx
      generalize (ch c).map clD = LC at *
      have b7 := ch_len c
      have hwq := wrapSucc q (by omega)
      repeat (first | with_reducible refine seq_k fun K hK => ?_ | (with_reducible refine region_k fun K hK => ?_; simp [*]) | with_reducible refine pwp_block ?_ | with_reducible refine pwp_skip ?_ | with_reducible refine pwp_ret ?_ | with_reducible refine pwp_exit ?_ | (with_reducible refine cond_t ?_ ?_; (focus (simp [*]; done))) | (with_reducible refine cond_f ?_ ?_; (focus (simp [*]; done))) | with_reducible refine then_n ?_ | with_reducible refine then_r ?_ | with_reducible refine then_e ?_ | with_reducible refine then_g ?_ | with_reducible refine inB_n ?_ | with_reducible refine inB_r ?_ | with_reducible refine inB_e ?_ | with_reducible refine inB_o rfl ?_ | with_reducible refine inB_g ?_ | with_reducible refine Leads.go (by assumption) ?_)
      have eG9 : Gath ((H.new (PObj.cells (cellsD (clD 10)))).put H.nx (some (PObj.cells (cellsD (clD x))))) y (mustL (ks.take k) ++ ((ch c).take q).flatMap mu) (mayL (ks.take k) ++ ((ch c).take q).flatMap ma) :=
        gath_keep eG (fun j hj => by rw [Heap.put_ne _ _ (by omega), Heap.new_ne _ _ (by omega)]) (by simp)
      obtain ⟨m, hm0⟩ : ∃ m, ((H.new (PObj.cells (cellsD (clD 10)))).put H.nx (some (PObj.cells (cellsD (clD x))))).get 0 = some (.cells [m]) := by obtain ⟨_, m, h2, _⟩ := eG9; exact ⟨m, h2⟩
      have b1 := mustL_len (ks.take k)
      have b2 := mayL_len (ks.take k)
      have b3 := flatMap_len mu 4 mu_len ((ch c).take q)
      have b4 := flatMap_len ma 4 ma_len ((ch c).take q)
      have b5 := mu_len x
      have b6 := ma_len x
      have b8 : (ks.take k).length ≤ 1000 := by simp; omega
      have b9 : ((ch c).take q).length ≤ 3 := by simp; omega
      obtain ⟨r1, H1, r2, H2, a1, a2, o1, c1, h02, f1, eG2⟩ := gath_step (mu' := mu x) (ma' := ma x) eG9 hm0 (by simp only [List.length_append]; omega) (by simp only [List.length_append]; omega)
      refine region10 (m := m) (y := y) (x := x) (b := H.nx) (r1 := r1) (r2 := r2) (H1 := H1) (H2 := H2) (by simp [*]) (by simp [*]) (by simp [*]) (by simp [*]) hm0 (Heap.put_same _ _ _) a1 a2 ?_ h02 o1 c1 ?_
      · rw [f1 H.nx (by simp) (fun e l q => by rw [Heap.put_same] at q; cases q)]; exact Heap.put_same _ _ _
      · intro E' n' g' g3
        have f2 := (g' 2 (by omega) (by omega)).trans (by simp; exact e2)
        have f18 := (g' 18 (by omega) (by omega)).trans (by simp; exact e18)
        have f19 := (g' 19 (by omega) (by omega)).trans (by simp; exact e19)
        have f20 := (g' 20 (by omega) (by omega)).trans (by simp; exact e20)
        have f25 := (g' 25 (by omega) (by omega)).trans (by simp; exact e25)
        have f26 := (g' 26 (by omega) (by omega)).trans (by simp; exact e26)
        have f27 := (g' 27 (by omega) (by omega)).trans (by simp; exact e27)
        clear g' b1 b2 b3 b4 b5 b6 b8 b9 f1 a1 a2 eG9 e2 e3 e18 e19 e20 e25 e26 e27 hL2 hge2 hLl2 hm0
        repeat (first | with_reducible refine seq_k fun K hK => ?_ | (with_reducible refine region_k fun K hK => ?_; simp [*]) | with_reducible refine pwp_block ?_ | with_reducible refine pwp_skip ?_ | with_reducible refine pwp_ret ?_ | with_reducible refine pwp_exit ?_ | (with_reducible refine cond_t ?_ ?_; (focus (simp [*]; done))) | (with_reducible refine cond_f ?_ ?_; (focus (simp [*]; done))) | with_reducible refine then_n ?_ | with_reducible refine then_r ?_ | with_reducible refine then_e ?_ | with_reducible refine then_g ?_ | with_reducible refine inB_n ?_ | with_reducible refine inB_r ?_ | with_reducible refine inB_e ?_ | with_reducible refine inB_o rfl ?_ | with_reducible refine inB_g ?_ | with_reducible refine Leads.go (by assumption) ?_)
        refine ⟨by simp [*], rfl, by simp [*], ?_⟩
        rw [hu, hm]
        simp [*]
        simpa [List.append_assoc] using eG2
    · clear e2 e18 e19 e20 e3 en eG y E H
      rintro ⟨E, H, df⟩ ⟨en, edf, ⟨e2, e18, e19, e20, e25, e26, e27, -⟩, eG⟩
      simp only at en edf e2 e18 e19 e20 e25 e26 e27 eG
      subst edf
      rw [List.take_length, ← mustL_succ hc, ← mayL_succ hc] at eG
      repeat (first | with_reducible refine seq_k fun K hK => ?_ | (with_reducible refine region_k fun K hK => ?_; simp [*]) | with_reducible refine pwp_block ?_ | with_reducible refine pwp_skip ?_ | with_reducible refine pwp_ret ?_ | with_reducible refine pwp_exit ?_ | (with_reducible refine cond_t ?_ ?_; (focus (simp [*]; done))) | (with_reducible refine cond_f ?_ ?_; (focus (simp [*]; done))) | with_reducible refine then_n ?_ | with_reducible refine then_r ?_ | with_reducible refine then_e ?_ | with_reducible refine then_g ?_ | with_reducible refine inB_n ?_ | with_reducible refine inB_r ?_ | with_reducible refine inB_e ?_ | with_reducible refine inB_o rfl ?_ | with_reducible refine inB_g ?_ | with_reducible refine Leads.go (by assumption) ?_)
      refine ⟨by simp [*], rfl, by simp [*], ?_⟩
      simp
      exact eG
  · rintro ⟨E, H, df⟩ ⟨en, edf, ⟨e2, e18, e19, e20, -⟩, eG⟩
    simp only at en edf e2 e18 e19 e20 eG
    subst edf
    rw [List.take_length] at eG
    obtain ⟨hn0, m, hm, gm, gy, hsep⟩ := eG
    have hne2 := mustL_ne hks0 hk10
    rcases gm with ⟨q, _⟩ | ⟨i, hi, rfl, hH, _⟩
    · exact absurd (by rw [lbs_lb, lb_nil] at q; exact q) hne2
    rw [lbs_lb] at hH hm
    have hml := mustL_len ks
    have hyl := mayL_len ks
    have hl1 : (lb (byts (mustL ks))).length = (byts (mustL ks)).length := lb_len _
    rw [hl1] at hm
    have b1 : (byts (mustL ks)).length ≤ 100000 := by rw [byts_len]; omega
    have b2 : (byts (mayL ks)).length ≤ 100000 := by rw [byts_len]; omega
    have ho := once_spec i (byts (mustL ks)) H hH hi hne2 b1
    rw [lbs_lb] at gy
    repeat (first | with_reducible refine seq_k fun K hK => ?_ | (with_reducible refine region_k fun K hK => ?_; simp [*]) | with_reducible refine pwp_block ?_ | with_reducible refine pwp_skip ?_ | with_reducible refine pwp_ret ?_ | with_reducible refine pwp_exit ?_ | (with_reducible refine cond_t ?_ ?_; (focus (simp [*]; done))) | (with_reducible refine cond_f ?_ ?_; (focus (simp [*]; done))) | with_reducible refine then_n ?_ | with_reducible refine then_r ?_ | with_reducible refine then_e ?_ | with_reducible refine then_g ?_ | with_reducible refine inB_n ?_ | with_reducible refine inB_r ?_ | with_reducible refine inB_e ?_ | with_reducible refine inB_o rfl ?_ | with_reducible refine inB_g ?_ | with_reducible refine Leads.go (by assumption) ?_)
    refine PCalls.mono ho ?_
    rintro _ H1 ⟨rfl, n1, g1, k1⟩
    have hm1 : H1.get 0 = some (.cells [.row i 9 0 (byts (mustL ks)).length]) := by rw [k1 0 hn0]; exact hm
    try simp [*]
    repeat (first | with_reducible refine seq_k fun K hK => ?_ | (with_reducible refine region_k fun K hK => ?_; simp [*]) | with_reducible refine pwp_block ?_ | with_reducible refine pwp_skip ?_ | with_reducible refine pwp_ret ?_ | with_reducible refine pwp_exit ?_ | (with_reducible refine cond_t ?_ ?_; (focus (simp [*]; done))) | (with_reducible refine cond_f ?_ ?_; (focus (simp [*]; done))) | with_reducible refine then_n ?_ | with_reducible refine then_r ?_ | with_reducible refine then_e ?_ | with_reducible refine then_g ?_ | with_reducible refine inB_n ?_ | with_reducible refine inB_r ?_ | with_reducible refine inB_e ?_ | with_reducible refine inB_o rfl ?_ | with_reducible refine inB_g ?_ | with_reducible refine Leads.go (by assumption) ?_)
    have uTake := lb_take (uniq (byts (mustL ks))) (List.replicate ((byts (mustL ks)).length - (uniq (byts (mustL ks))).length) [])
    have ul1 := uniq_len (byts (mustL ks))
    have ul2 := uniq_len (byts (mayL ks))
    generalize hLm : lb (uniq (byts (mustL ks)) ++ List.replicate ((byts (mustL ks)).length - (uniq (byts (mustL ks))).length) []) = LM at *
    rcases gy with ⟨gy0, e3⟩ | ⟨j, hj, e3, hHj, gyn⟩
    · rw [e3]
      refine PCalls.mono (once_nil _) ?_
      rintro _ _ ⟨rfl, rfl⟩
      refine PCalls.mono (deleteFunc_nil _ _) ?_
      rintro _ _ ⟨rfl, rfl⟩
      try simp [*]
      repeat (first | with_reducible refine seq_k fun K hK => ?_ | (with_reducible refine region_k fun K hK => ?_; simp [*]) | with_reducible refine pwp_block ?_ | with_reducible refine pwp_skip ?_ | with_reducible refine pwp_ret ?_ | with_reducible refine pwp_exit ?_ | (with_reducible refine cond_t ?_ ?_; (focus (simp [*]; done))) | (with_reducible refine cond_f ?_ ?_; (focus (simp [*]; done))) | with_reducible refine then_n ?_ | with_reducible refine then_r ?_ | with_reducible refine then_e ?_ | with_reducible refine then_g ?_ | with_reducible refine inB_n ?_ | with_reducible refine inB_r ?_ | with_reducible refine inB_e ?_ | with_reducible refine inB_o rfl ?_ | with_reducible refine inB_g ?_ | with_reducible refine Leads.go (by assumption) ?_)
      have hb : byts (mayL ks) = [] := by simpa using gy0
      have gF : ((H1.put 0 (some (PObj.cells [D.row (H.nx + 1) 9 0 (uniq (byts (mustL ks))).length]))).put 0 (some (PObj.cells [D.row (H.nx + 1) 9 0 (uniq (byts (mustL ks))).length]))).get (H.nx + 1) = some (.row 9 LM) := by
        rw [Heap.put_ne _ _ (by omega), Heap.put_ne _ _ (by omega)]; exact g1
      have hz := fz_three (v := .int .i64 0) (fz_strow (P := Try.prog) 17 gF uTake) (fz_nil (P := Try.prog) 18 ((H1.put 0 (some (PObj.cells [D.row (H.nx + 1) 9 0 (uniq (byts (mustL ks))).length]))).put 0 (some (PObj.cells [D.row (H.nx + 1) 9 0 (uniq (byts (mustL ks))).length]))))
      clear gF g1 hm1 uTake hLm ho
      simp only [retPost, runDefers, resultsE, res18, result1, tupD, eLoad]
      simp [*]
      exact ⟨_, _, rfl, ⟨_, _, rfl, .inr rfl⟩, ⟨1, 0, by rw [mayU, hb, uniq_nil]; rfl, .inl (by rw [mayU, hb, uniq_nil]; rfl)⟩⟩
    · have hj0 : j ≠ 0 := fun q => by subst q; rw [hm] at hHj; cases hHj
      have hji : j ≠ H.nx + 1 := by omega
      have h1 : (lb (byts (mayL ks))).length = (byts (mayL ks)).length := lb_len _
      rw [e3, h1]
      have hb0 : byts (mayL ks) ≠ [] := by simpa using gyn
      have hH2 : (H1.put 0 (some (PObj.cells [D.row (H.nx + 1) 9 0 (uniq (byts (mustL ks))).length]))).get j = some (.row 9 (lb (byts (mayL ks)))) := by
        rw [Heap.put_ne _ _ hj0, k1 j hj]; exact hHj
      refine PCalls.mono (once_spec j (byts (mayL ks)) _ hH2 (by simp; omega) hb0 b2) ?_
      rintro _ H2 ⟨rfl, n2, g2, k2⟩
      simp only [Heap.put_nx] at n2 g2 k2 ⊢
      have uTake2 := lb_take (uniq (byts (mayL ks))) (List.replicate ((byts (mayL ks)).length - (uniq (byts (mayL ks))).length) [])
      generalize hLy : lb (uniq (byts (mayL ks)) ++ List.replicate ((byts (mayL ks)).length - (uniq (byts (mayL ks))).length) []) = LY at *
      have g20 : H2.get 0 = some (PObj.cells [D.row (H.nx + 1) 9 0 (uniq (byts (mustL ks))).length]) := by rw [k2 0 (by omega)]; exact Heap.put_same _ _ _
      have g21 : H2.get (H.nx + 1) = some (.row 9 LM) := by rw [k2 _ (by omega), Heap.put_ne _ _ (by omega)]; exact g1
      refine PCalls.mono (deleteFunc_spec (H1.nx + 1) LY (uniq (byts (mayL ks))) 0 (H.nx + 1) LM (uniq (byts (mustL ks))) H2 g2 uTake2 (by omega) g20 g21 uTake (by omega) (by omega)) ?_
      rintro _ H3 ⟨rfl, ⟨M, gM, hM⟩, k3, n3⟩
      have g30 : H3.get 0 = some (PObj.cells [D.row (H.nx + 1) 9 0 (uniq (byts (mustL ks))).length]) := by rw [k3 0 (by omega)]; exact g20
      have g31 : H3.get (H.nx + 1) = some (.row 9 LM) := by rw [k3 _ (by omega)]; exact g21
      clear hm g1 k1 hm1 g2 k2 k3 g20 g21 hH2 hHj hH
      try simp [*]
      repeat (first | with_reducible refine seq_k fun K hK => ?_ | (with_reducible refine region_k fun K hK => ?_; simp [*]) | with_reducible refine pwp_block ?_ | with_reducible refine pwp_skip ?_ | with_reducible refine pwp_ret ?_ | with_reducible refine pwp_exit ?_ | (with_reducible refine cond_t ?_ ?_; (focus (simp [*]; done))) | (with_reducible refine cond_f ?_ ?_; (focus (simp [*]; done))) | with_reducible refine then_n ?_ | with_reducible refine then_r ?_ | with_reducible refine then_e ?_ | with_reducible refine then_g ?_ | with_reducible refine inB_n ?_ | with_reducible refine inB_r ?_ | with_reducible refine inB_e ?_ | with_reducible refine inB_o rfl ?_ | with_reducible refine inB_g ?_ | with_reducible refine Leads.go (by assumption) ?_)
      have gF : (H3.put 0 (some (PObj.cells [D.row (H.nx + 1) 9 0 (uniq (byts (mustL ks))).length]))).get (H.nx + 1) = some (.row 9 LM) := by
        rw [Heap.put_ne _ _ (by omega)]; exact g31
      have gG : (H3.put 0 (some (PObj.cells [D.row (H.nx + 1) 9 0 (uniq (byts (mustL ks))).length]))).get (H.nx + 2 + 1) = some (.row 9 M) := by
        rw [Heap.put_ne _ _ (by omega), ← n1]; exact gM
      have hz := fz_three (v := .int .i64 0) (fz_strow (P := Try.prog) 17 gF uTake) (fz_strow (P := Try.prog) 17 gG hM)
      clear gF gG uTake uTake2 hLm hLy ho hM h1 gM g31 
      simp only [retPost, runDefers, resultsE, res18, result1, tupD, eLoad]
      simp [*]
      exact ⟨_, _, rfl, ⟨_, _, rfl, .inr rfl⟩, ⟨_, _, rfl, .inr rfl⟩⟩
def AllRes (ss : List ByteArray) (d : D) : Prop := if okAll ss = true then AllPost (ss.map fcls) d else d = .tup [.slice 1 0 [], .slice 1 0 [], .val (.int .i64 13)]
theorem All_empty (g : Nat) (e : TypeId) : PCalls Try.prog 18 [.slice g e []] (noHeap noG) fun d _ => d = .tup [.slice 1 0 [], .slice 1 0 [], .val (.int .i64 0)] := runFz_spec (n := 50) mixedO (by kernel_rfl)
set_option maxHeartbeats 8000000 in
set_option maxRecDepth 100000 in
theorem All_bad (g : Nat) (e : TypeId) (ss : List ByteArray) (he : ss = [] ∨ e = 9) (hs : ∀ s ∈ ss, s.size ≤ 140737488351232) (hl : ss.length ≤ 1000) (hok : okAll ss = false) : PCalls Try.prog 18 [.slice g e (ss.map strD)] (noHeap noG) fun d H' => d = .tup [.slice 1 0 [], .slice 1 0 [], .val (.int .i64 13)] := by
  refine PCalls.of_pwp Try.call18 Try.func18 rfl (by simp [Try.ntmps18]) ?_
  rw [Try.ntmps18]
  have hf := found_spec g e ss he hs (by omega)
  have hfd : foundD ss = .tup [.slice 1 0 [], .val (.bool false)] := by rw [foundD, hok]; rfl
  rw [hfd] at hf
  generalize ss.map strD = LS at *
  repeat (first | with_reducible refine seq_k fun K hK => ?_ | (with_reducible refine region_k fun K hK => ?_; simp [*]) | with_reducible refine pwp_block ?_ | with_reducible refine pwp_skip ?_ | with_reducible refine pwp_ret ?_ | with_reducible refine pwp_exit ?_ | (with_reducible refine cond_t ?_ ?_; (focus (simp [*]; done))) | (with_reducible refine cond_f ?_ ?_; (focus (simp [*]; done))) | with_reducible refine then_n ?_ | with_reducible refine then_r ?_ | with_reducible refine then_e ?_ | with_reducible refine then_g ?_ | with_reducible refine inB_n ?_ | with_reducible refine inB_r ?_ | with_reducible refine inB_e ?_ | with_reducible refine inB_o rfl ?_ | with_reducible refine inB_g ?_ | with_reducible refine Leads.go (by assumption) ?_)
  refine PCalls.mono (hf _) ?_
  rintro _ H ⟨rfl, rfl⟩
  try simp [*]
  repeat (first | with_reducible refine seq_k fun K hK => ?_ | (with_reducible refine region_k fun K hK => ?_; simp [*]) | with_reducible refine pwp_block ?_ | with_reducible refine pwp_skip ?_ | with_reducible refine pwp_ret ?_ | with_reducible refine pwp_exit ?_ | (with_reducible refine cond_t ?_ ?_; (focus (simp [*]; done))) | (with_reducible refine cond_f ?_ ?_; (focus (simp [*]; done))) | with_reducible refine then_n ?_ | with_reducible refine then_r ?_ | with_reducible refine then_e ?_ | with_reducible refine then_g ?_ | with_reducible refine inB_n ?_ | with_reducible refine inB_r ?_ | with_reducible refine inB_e ?_ | with_reducible refine inB_o rfl ?_ | with_reducible refine inB_g ?_ | with_reducible refine Leads.go (by assumption) ?_)
  simp [*]
theorem pure_lb (g : Nat) (e : TypeId) (l : List (List UInt8)) : Pure (.slice g e (lb l)) := by
  refine .slice _ _ _ fun d hd => ?_
  simp only [flat, List.mem_flatMap, lb, List.mem_map] at hd
  obtain ⟨x, ⟨y, _, rfl⟩, hd⟩ := hd
  simp at hd
  subst hd
  exact .val _
theorem pure_nil : Pure (.slice 1 0 []) := .slice _ _ _ fun d hd => by cases hd
theorem pure_allRes {ss : List ByteArray} {d : D} (h : AllRes ss d) : Pure d := by
  unfold AllRes at h
  split at h
  · obtain ⟨d1, d2, rfl, ⟨g1, e1, rfl, _⟩, ⟨g2, e2, rfl, _⟩⟩ := h
    refine .tup _ fun d hd => ?_
    simp only [List.mem_cons, List.mem_nil_iff, or_false] at hd
    rcases hd with rfl | rfl | rfl
    · exact pure_lb _ _ _
    · exact pure_lb _ _ _
    · exact .val _
  · subst h
    refine .tup _ fun d hd => ?_
    simp only [List.mem_cons, List.mem_nil_iff, or_false] at hd
    rcases hd with rfl | rfl | rfl
    · exact pure_nil
    · exact pure_nil
    · exact .val _
theorem All_spec (g : Nat) (e : TypeId) (ss : List ByteArray) (he : ss = [] ∨ e = 9) (hs : ∀ s ∈ ss, s.size ≤ 140737488351232) (hl : ss.length ≤ 1000) (H : Heap) : PCalls Try.prog 18 [.slice g e (ss.map strD)] H fun d H' => AllRes ss d ∧ H' = H := by
  refine PCalls.liftR (G := noG) ?_ (fun d hd => by simp only [List.mem_cons, List.mem_nil_iff, or_false] at hd; subst hd; exact pure_strs _ _ _) (fun d h => pure_allRes h) (fun g cs h => by cases h) (fun g cs h => by cases h)
  by_cases hok : okAll ss = true
  · by_cases hne : ss = []
    · subst hne
      refine PCalls.mono (All_empty g e) ?_
      rintro _ _ rfl
      rw [AllRes, if_pos hok]
      exact ⟨_, _, rfl, ⟨1, 0, by rw [mustU, List.map_nil, mustL, List.flatMap_nil, byts, List.map_nil, uniq_nil]; rfl, .inl (by rw [mustU, List.map_nil, mustL, List.flatMap_nil, byts, List.map_nil, uniq_nil])⟩,
        ⟨1, 0, by rw [mayU, List.map_nil, mayL, List.flatMap_nil, byts, List.map_nil, uniq_nil]; rfl, .inl (by rw [mayU, List.map_nil, mayL, List.flatMap_nil, byts, List.map_nil, uniq_nil]; rfl)⟩⟩
    · refine PCalls.mono (PCalls.frozenR (All_local g e ss he hs hl hok hne)) ?_
      rintro d _ h
      rw [AllRes, if_pos hok]; exact h
  · have hok' : okAll ss = false := by simpa using hok
    refine PCalls.mono (All_bad g e ss he hs hl hok') ?_
    rintro _ _ rfl
    rw [AllRes, if_neg hok]
end Go.Pv
