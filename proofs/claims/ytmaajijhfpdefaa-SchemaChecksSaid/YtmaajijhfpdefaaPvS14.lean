/- A part of the proof: functions of the program, walked, or what operations come to. -/
import Derived.Test.YtmaajijhfpdefaaPvS13
namespace Go.Pv
open Go.Proofs
attribute [local simp] Try.underlying23 Try.underlying29 Try.underlying31 Try.underlying41 Heap.new_get Heap.put_get strD eBuildSlice
@[simp] theorem res22 : Try.f22.results.toList = [.tmp 4] := rfl
set_option maxHeartbeats 4000000 in
set_option maxRecDepth 100000 in
theorem indexS_spec (g : Nat) (e : TypeId) (l : List (List UInt8)) (s : List UInt8) (he : l = [] ∨ e = 9) (hl : l.length ≤ 100000) (H : Heap) : PCalls Try.prog 40 [.slice g e (lb l), .val (encStr s)] H fun d H' => (∃ r : Int, d = .val (.int .i64 r) ∧ (0 ≤ r ↔ s ∈ l)) ∧ H' = H := by
  refine PCalls.of_pwp Try.call40 Try.func40 rfl (by simp [Try.ntmps40]) ?_
  rw [Try.ntmps40]
  repeat (first | with_reducible refine seq_k fun K hK => ?_ | (with_reducible refine region_k fun K hK => ?_; simp [*]) | (with_reducible refine region_draw_k mixedO (by kernel_rfl) fun K hK => ?_; simp [*]) | with_reducible refine pwp_block ?_ | with_reducible refine pwp_skip ?_ | with_reducible refine pwp_ret ?_ | with_reducible refine pwp_exit ?_ | (with_reducible refine cond_t ?_ ?_; (focus (simp [*]; done))) | (with_reducible refine cond_f ?_ ?_; (focus (simp [*]; done))) | with_reducible refine then_n ?_ | with_reducible refine then_r ?_ | with_reducible refine then_e ?_ | with_reducible refine then_g ?_ | with_reducible refine inB_n ?_ | with_reducible refine inB_r ?_ | with_reducible refine inB_e ?_ | with_reducible refine inB_o rfl ?_ | with_reducible refine inB_g ?_ | with_reducible refine Leads.go (by assumption) ?_)
  refine pwp_for l.length (fun k st => st.env.n = 19 ∧ st.df = [] ∧ st.H = H ∧ slots st.env [(0, .slice g e (lb l)), (1, .val (.string ⟨s.toArray⟩)), (7, .val (.int .i64 l.length)), (8, .val (.int .i64 k))] ∧ s ∉ l.take k) ?_ ?_ ?_
  · simp
  · rintro k ⟨E, H2, df⟩ h ⟨en, edf, eH, ⟨e0, e1, e7, e8, -⟩, eP⟩
    simp only at en edf eH e0 e1 e7 e8
    subst edf; subst eH
    have hki : (k : Int) < (l.length : Int) := by omega
    obtain ⟨c, hc⟩ : ∃ c, l[k]? = some c := ⟨_, List.getElem?_eq_getElem h⟩
    have hL := lb_get hc
    have hge := get_of hL
    have hLl : (lb l).length = l.length := lb_len l
    obtain rfl : e = 9 := he.resolve_left (fun q => by subst q; simp at h)
    have hw := wrapSucc k (by omega)
    have hT : l.take (k + 1) = l.take k ++ [c] := by rw [List.take_add_one, hc]; rfl
    generalize lb l = L at *
    by_cases h1 : s = c
    · repeat (first | with_reducible refine seq_k fun K hK => ?_ | (with_reducible refine region_k fun K hK => ?_; simp [*]) | (with_reducible refine region_draw_k mixedO (by kernel_rfl) fun K hK => ?_; simp [*]) | with_reducible refine pwp_block ?_ | with_reducible refine pwp_skip ?_ | with_reducible refine pwp_ret ?_ | with_reducible refine pwp_exit ?_ | (with_reducible refine cond_t ?_ ?_; (focus (simp [*]; done))) | (with_reducible refine cond_f ?_ ?_; (focus (simp [*]; done))) | with_reducible refine then_n ?_ | with_reducible refine then_r ?_ | with_reducible refine then_e ?_ | with_reducible refine then_g ?_ | with_reducible refine inB_n ?_ | with_reducible refine inB_r ?_ | with_reducible refine inB_e ?_ | with_reducible refine inB_o rfl ?_ | with_reducible refine inB_g ?_ | with_reducible refine Leads.go (by assumption) ?_)
      simp [*]
      exact List.mem_of_getElem? hc
    · repeat (first | with_reducible refine seq_k fun K hK => ?_ | (with_reducible refine region_k fun K hK => ?_; simp [*]) | (with_reducible refine region_draw_k mixedO (by kernel_rfl) fun K hK => ?_; simp [*]) | with_reducible refine pwp_block ?_ | with_reducible refine pwp_skip ?_ | with_reducible refine pwp_ret ?_ | with_reducible refine pwp_exit ?_ | (with_reducible refine cond_t ?_ ?_; (focus (simp [*]; done))) | (with_reducible refine cond_f ?_ ?_; (focus (simp [*]; done))) | with_reducible refine then_n ?_ | with_reducible refine then_r ?_ | with_reducible refine then_e ?_ | with_reducible refine then_g ?_ | with_reducible refine inB_n ?_ | with_reducible refine inB_r ?_ | with_reducible refine inB_e ?_ | with_reducible refine inB_o rfl ?_ | with_reducible refine inB_g ?_ | with_reducible refine Leads.go (by assumption) ?_)
      simp [*]
  · rintro ⟨E, H2, df⟩ ⟨en, edf, eH, ⟨e0, e1, e7, e8, -⟩, eP⟩
    simp only at en edf eH e0 e1 e7 e8
    subst edf; subst eH
    rw [List.take_length] at eP
    repeat (first | with_reducible refine seq_k fun K hK => ?_ | (with_reducible refine region_k fun K hK => ?_; simp [*]) | (with_reducible refine region_draw_k mixedO (by kernel_rfl) fun K hK => ?_; simp [*]) | with_reducible refine pwp_block ?_ | with_reducible refine pwp_skip ?_ | with_reducible refine pwp_ret ?_ | with_reducible refine pwp_exit ?_ | (with_reducible refine cond_t ?_ ?_; (focus (simp [*]; done))) | (with_reducible refine cond_f ?_ ?_; (focus (simp [*]; done))) | with_reducible refine then_n ?_ | with_reducible refine then_r ?_ | with_reducible refine then_e ?_ | with_reducible refine then_g ?_ | with_reducible refine inB_n ?_ | with_reducible refine inB_r ?_ | with_reducible refine inB_e ?_ | with_reducible refine inB_o rfl ?_ | with_reducible refine inB_g ?_ | with_reducible refine Leads.go (by assumption) ?_)
    simp [*]
set_option maxHeartbeats 4000000 in
set_option maxRecDepth 100000 in
theorem containsS_spec (g : Nat) (e : TypeId) (l : List (List UInt8)) (s : List UInt8) (he : l = [] ∨ e = 9) (hl : l.length ≤ 100000) (H : Heap) : PCalls Try.prog 31 [.slice g e (lb l), .val (encStr s)] H fun d H' => d = .val (.bool (decide (s ∈ l))) ∧ H' = H := by
  refine PCalls.of_pwp Try.call31 Try.func31 rfl (by simp [Try.ntmps31]) ?_
  rw [Try.ntmps31]
  repeat (first | with_reducible refine seq_k fun K hK => ?_ | (with_reducible refine region_k fun K hK => ?_; simp [*]) | (with_reducible refine region_draw_k mixedO (by kernel_rfl) fun K hK => ?_; simp [*]) | with_reducible refine pwp_block ?_ | with_reducible refine pwp_skip ?_ | with_reducible refine pwp_ret ?_ | with_reducible refine pwp_exit ?_ | (with_reducible refine cond_t ?_ ?_; (focus (simp [*]; done))) | (with_reducible refine cond_f ?_ ?_; (focus (simp [*]; done))) | with_reducible refine then_n ?_ | with_reducible refine then_r ?_ | with_reducible refine then_e ?_ | with_reducible refine then_g ?_ | with_reducible refine inB_n ?_ | with_reducible refine inB_r ?_ | with_reducible refine inB_e ?_ | with_reducible refine inB_o rfl ?_ | with_reducible refine inB_g ?_ | with_reducible refine Leads.go (by assumption) ?_)
  refine PCalls.mono (indexS_spec g e l s he hl H) ?_
  rintro _ _ ⟨⟨r, rfl, hr⟩, rfl⟩
  by_cases hm : s ∈ l
  · have hr0 : 0 ≤ r := hr.2 hm
    try simp [*]
    repeat (first | with_reducible refine seq_k fun K hK => ?_ | (with_reducible refine region_k fun K hK => ?_; simp [*]) | (with_reducible refine region_draw_k mixedO (by kernel_rfl) fun K hK => ?_; simp [*]) | with_reducible refine pwp_block ?_ | with_reducible refine pwp_skip ?_ | with_reducible refine pwp_ret ?_ | with_reducible refine pwp_exit ?_ | (with_reducible refine cond_t ?_ ?_; (focus (simp [*]; done))) | (with_reducible refine cond_f ?_ ?_; (focus (simp [*]; done))) | with_reducible refine then_n ?_ | with_reducible refine then_r ?_ | with_reducible refine then_e ?_ | with_reducible refine then_g ?_ | with_reducible refine inB_n ?_ | with_reducible refine inB_r ?_ | with_reducible refine inB_e ?_ | with_reducible refine inB_o rfl ?_ | with_reducible refine inB_g ?_ | with_reducible refine Leads.go (by assumption) ?_)
    simp [*]
  · have hr0 : ¬ 0 ≤ r := fun q => hm (hr.1 q)
    try simp [*]
    repeat (first | with_reducible refine seq_k fun K hK => ?_ | (with_reducible refine region_k fun K hK => ?_; simp [*]) | (with_reducible refine region_draw_k mixedO (by kernel_rfl) fun K hK => ?_; simp [*]) | with_reducible refine pwp_block ?_ | with_reducible refine pwp_skip ?_ | with_reducible refine pwp_ret ?_ | with_reducible refine pwp_exit ?_ | (with_reducible refine cond_t ?_ ?_; (focus (simp [*]; done))) | (with_reducible refine cond_f ?_ ?_; (focus (simp [*]; done))) | with_reducible refine then_n ?_ | with_reducible refine then_r ?_ | with_reducible refine then_e ?_ | with_reducible refine then_g ?_ | with_reducible refine inB_n ?_ | with_reducible refine inB_r ?_ | with_reducible refine inB_e ?_ | with_reducible refine inB_o rfl ?_ | with_reducible refine inB_g ?_ | with_reducible refine Leads.go (by assumption) ?_)
    simp [*]
@[simp] theorem okPart_at (k : Nat) : okPart (atD k) = true := by simp [atD]
def nmB (s : ByteArray) : List UInt8 := (an (fat s)).data.toList
def namesB (l : List ByteArray) : List (List UInt8) := l.map nmB
def okAt (l : List ByteArray) : Bool := l.all fun s => decide (fat s < 20)
def checkV (ks : List Nat) (bs : List ByteArray) : Int :=
  if okAt bs = false then 13 else if oneB ks = false then 16 else if ((mustU ks).all fun m => decide (m ∈ namesB bs)) = false then 11 else
  if ((namesB bs).all fun n => decide (n ∈ mustU ks) || decide (n ∈ mayU ks)) = false then 2 else 0
theorem fz_growS {P : Program} {H : Heap} {acc : D} {l : List (List UInt8)} (h : Grow H acc 9 (lb l)) : ∃ g e, fz P 20 H acc = some (.slice g e (lb l)) ∧ (l = [] ∨ e = 9) := by
  rcases h with ⟨h1, rfl⟩ | ⟨i, _, rfl, hH, hne⟩
  · have : l = [] := by simpa using h1
    subst this; exact ⟨1, 0, rfl, .inl rfl⟩
  · have hz := fz_strow (P := P) 18 (u := l) hH (by rw [← lb_len l]; exact List.take_length)
    rw [lb_len]
    exact ⟨_, 9, hz, .inr rfl⟩
set_option maxHeartbeats 8000000 in
set_option maxRecDepth 100000 in
theorem Check_local (g g2 : Nat) (e e2 : TypeId) (ss bs : List ByteArray) (he : ss = [] ∨ e = 9) (he2 : bs = [] ∨ e2 = 9) (hs : ∀ s ∈ ss, s.size ≤ 140737488351232) (hs2 : ∀ s ∈ bs, s.size ≤ 140737488351232) (hl : ss.length ≤ 1000) (hl2 : bs.length ≤ 100000) (hok : okAll ss = true) :
    PCalls Try.prog 22 [.slice g e (ss.map strD), .slice g2 e2 (bs.map strD)] (noHeap noG) fun d _ => d = .val (.int .i64 (checkV (ss.map fcls) bs)) := by
  refine PCalls.of_pwp Try.call22 Try.func22 rfl (by simp [Try.ntmps22]) ?_
  rw [Try.ntmps22]
  have hAll := All_spec g e ss he hs hl
  have hf := found_spec g e ss he hs (by omega)
  obtain ⟨ks, hks⟩ : ∃ ks, ks = ss.map fcls := ⟨_, rfl⟩
  have hkl : ks.length ≤ 1000 := by rw [hks]; simpa using hl
  have hk10 : ∀ k ∈ ks, k < 10 := by
    rw [hks]; intro k hk
    obtain ⟨s, hs, rfl⟩ := List.mem_map.1 hk
    have := List.all_eq_true.1 hok s hs
    simpa using this
  have hfd : foundD ss = .tup [clsD ks, .val (.bool true)] := by rw [foundD, hok, ← hks]; rfl
  rw [hfd] at hf
  have hone := one_spec ks hk10 hkl
  rw [← hks]
  generalize hLS : ss.map strD = LS at *
  repeat (first | with_reducible refine seq_k fun K hK => ?_ | (with_reducible refine region_k fun K hK => ?_; simp [*]) | (with_reducible refine region_draw_k mixedO (by kernel_rfl) fun K hK => ?_; simp [*]) | with_reducible refine pwp_block ?_ | with_reducible refine pwp_skip ?_ | with_reducible refine pwp_ret ?_ | with_reducible refine pwp_exit ?_ | (with_reducible refine cond_t ?_ ?_; (focus (simp [*]; done))) | (with_reducible refine cond_f ?_ ?_; (focus (simp [*]; done))) | with_reducible refine then_n ?_ | with_reducible refine then_r ?_ | with_reducible refine then_e ?_ | with_reducible refine then_g ?_ | with_reducible refine inB_n ?_ | with_reducible refine inB_r ?_ | with_reducible refine inB_e ?_ | with_reducible refine inB_o rfl ?_ | with_reducible refine inB_g ?_ | with_reducible refine Leads.go (by assumption) ?_)
  refine PCalls.mono (hAll _) ?_
  rintro r _ ⟨hr, rfl⟩
  rw [AllRes, if_pos hok, ← hks] at hr
  obtain ⟨_, _, rfl, ⟨a1, b1, rfl, q1⟩, ⟨a2, b2, rfl, q2⟩⟩ := hr
  have hmu := mustU_len ks
  have hma := mayU_len ks
  have hchk : Hold (checkV ks bs = _) := ⟨rfl⟩
  clear hAll hLS hks hfd
  try simp [*]
  repeat (first | with_reducible refine seq_k fun K hK => ?_ | (with_reducible refine region_k fun K hK => ?_; simp [*]) | (with_reducible refine region_draw_k mixedO (by kernel_rfl) fun K hK => ?_; simp [*]) | with_reducible refine pwp_block ?_ | with_reducible refine pwp_skip ?_ | with_reducible refine pwp_ret ?_ | with_reducible refine pwp_exit ?_ | (with_reducible refine cond_t ?_ ?_; (focus (simp [*]; done))) | (with_reducible refine cond_f ?_ ?_; (focus (simp [*]; done))) | with_reducible refine then_n ?_ | with_reducible refine then_r ?_ | with_reducible refine then_e ?_ | with_reducible refine then_g ?_ | with_reducible refine inB_n ?_ | with_reducible refine inB_r ?_ | with_reducible refine inB_e ?_ | with_reducible refine inB_o rfl ?_ | with_reducible refine inB_g ?_ | with_reducible refine Leads.go (by assumption) ?_)
  refine pwp_for bs.length (fun k st => st.env.n = 83 ∧ st.df = [] ∧ slots st.env [(0, .slice g e LS), (5, .slice a1 b1 (lb (mustU ks))), (6, .slice a2 b2 (lb (mayU ks))), (28, .slice g2 e2 (bs.map strD)), (29, .val (.int .i64 bs.length)), (30, .val (.int .i64 k))] ∧
    Grow st.H (st.env.get 8) 9 (lb (namesB (bs.take k))) ∧ okAt (bs.take k) = true) ?_ ?_ ?_
  · refine ⟨by simp, rfl, by simp, .inl ⟨by simp [namesB], by simp⟩, rfl⟩
  · rintro k ⟨E, H, df⟩ h ⟨en, edf, ⟨e0, e5, e6, e28, e29, e30, -⟩, eA, eP⟩
    simp only at en edf e0 e5 e6 e28 e29 e30 eA
    subst edf
    obtain ⟨acc, e8⟩ : ∃ y, E.get 8 = y := ⟨_, rfl⟩
    rw [e8] at eA
    have hki : (k : Int) < (bs.length : Int) := by omega
    obtain ⟨s, hc⟩ : ∃ c, bs[k]? = some c := ⟨_, List.getElem?_eq_getElem h⟩
    have hL : (bs.map strD)[k]? = some (strD s) := by rw [List.getElem?_map, hc]; rfl
    have hge := get_of hL
    have hLl : (bs.map strD).length = bs.length := by simp
    obtain rfl : e2 = 9 := he2.resolve_left (fun q => by subst q; simp at h)
    have hw := wrapSucc k (by omega)
    have hfs := fun H => Find_spec s H (hs2 s (List.mem_of_getElem? hc))
    have hT : namesB (bs.take (k + 1)) = namesB (bs.take k) ++ [nmB s] := by rw [List.take_add_one, hc]; simp [namesB]
    have hPk : okAt (bs.take (k + 1)) = decide (fat s < 20) := by rw [List.take_add_one, hc]; simp only [okAt, List.all_append] at eP ⊢; rw [eP]; simp
    have hmem := List.mem_of_getElem? hc
    have kT := Hold.mk hT
    have kPk := Hold.mk hPk
    have kA := Hold.mk eA
    have khc := Hold.mk hmem
    clear hT hPk eA eP hmem hc hs2
    generalize bs.map strD = L at *
    by_cases hft : fat s < 20
    · repeat (first | with_reducible refine seq_k fun K hK => ?_ | (with_reducible refine region_k fun K hK => ?_; simp [*]) | (with_reducible refine region_draw_k mixedO (by kernel_rfl) fun K hK => ?_; simp [*]) | with_reducible refine pwp_block ?_ | with_reducible refine pwp_skip ?_ | with_reducible refine pwp_ret ?_ | with_reducible refine pwp_exit ?_ | (with_reducible refine cond_t ?_ ?_; (focus (simp [*]; done))) | (with_reducible refine cond_f ?_ ?_; (focus (simp [*]; done))) | with_reducible refine then_n ?_ | with_reducible refine then_r ?_ | with_reducible refine then_e ?_ | with_reducible refine then_g ?_ | with_reducible refine inB_n ?_ | with_reducible refine inB_r ?_ | with_reducible refine inB_e ?_ | with_reducible refine inB_o rfl ?_ | with_reducible refine inB_g ?_ | with_reducible refine Leads.go (by assumption) ?_)
      refine PCalls.mono (hfs _) ?_
      rintro _ H ⟨rfl, rfl⟩
      clear hfs hf hone
      try simp [*]
      repeat (first | with_reducible refine seq_k fun K hK => ?_ | (with_reducible refine region_k fun K hK => ?_; simp [*]) | (with_reducible refine region_draw_k mixedO (by kernel_rfl) fun K hK => ?_; simp [*]) | with_reducible refine pwp_block ?_ | with_reducible refine pwp_skip ?_ | with_reducible refine pwp_ret ?_ | with_reducible refine pwp_exit ?_ | (with_reducible refine cond_t ?_ ?_; (focus (simp [*]; done))) | (with_reducible refine cond_f ?_ ?_; (focus (simp [*]; done))) | with_reducible refine then_n ?_ | with_reducible refine then_r ?_ | with_reducible refine then_e ?_ | with_reducible refine then_g ?_ | with_reducible refine inB_n ?_ | with_reducible refine inB_r ?_ | with_reducible refine inB_e ?_ | with_reducible refine inB_o rfl ?_ | with_reducible refine inB_g ?_ | with_reducible refine Leads.go (by assumption) ?_)
      have hG : Grow (((H.new (PObj.cells (cellsD (atD 20)))).put H.nx (some (PObj.cells (cellsD (atD (fat s)))))).new (PObj.row 9 [strD (an (fat s))])) acc 9 (lb (namesB (bs.take k))) :=
        grow_keep kA.out (fun j hj _ _ _ _ => by rw [Heap.new_ne _ _ (by simp; omega), Heap.put_ne _ _ (by omega), Heap.new_ne _ _ (by omega)]) (by simp; omega)
      obtain ⟨r, H1, k1, k2, -⟩ := grow_append [strD (an (fat s))] hG (by simp [namesB]; omega)
      have k3 : Hold (Grow H1 r 9 (lb (namesB (bs.take (k + 1))))) := ⟨by
        rw [kT.out]
        have : lb (namesB (bs.take k) ++ [nmB s]) = lb (namesB (bs.take k)) ++ [strD (an (fat s))] := by rw [lb, List.map_append]; rfl
        rw [this]; exact k2⟩
      have k4 : Hold (okAt (bs.take (k + 1)) = true) := ⟨by rw [kPk.out]; simpa using hft⟩
      simp only [cells_at, strD] at k1
      clear hG k2 kT kPk kA hchk
      simp [*]
      repeat (first | with_reducible refine seq_k fun K hK => ?_ | (with_reducible refine region_k fun K hK => ?_; simp [*]) | (with_reducible refine region_draw_k mixedO (by kernel_rfl) fun K hK => ?_; simp [*]) | with_reducible refine pwp_block ?_ | with_reducible refine pwp_skip ?_ | with_reducible refine pwp_ret ?_ | with_reducible refine pwp_exit ?_ | (with_reducible refine cond_t ?_ ?_; (focus (simp [*]; done))) | (with_reducible refine cond_f ?_ ?_; (focus (simp [*]; done))) | with_reducible refine then_n ?_ | with_reducible refine then_r ?_ | with_reducible refine then_e ?_ | with_reducible refine then_g ?_ | with_reducible refine inB_n ?_ | with_reducible refine inB_r ?_ | with_reducible refine inB_e ?_ | with_reducible refine inB_o rfl ?_ | with_reducible refine inB_g ?_ | with_reducible refine Leads.go (by assumption) ?_)
      refine ⟨by simp [*], rfl, by simp [*], ?_, k4.out⟩
      simp [*]
      exact k3.out
    · have hall : okAt bs = false := by
        rw [okAt, List.all_eq_false]
        exact ⟨s, khc.out, by simp [hft]⟩
      have hv : checkV ks bs = 13 := by rw [checkV, if_pos hall]
      repeat (first | with_reducible refine seq_k fun K hK => ?_ | (with_reducible refine region_k fun K hK => ?_; simp [*]) | (with_reducible refine region_draw_k mixedO (by kernel_rfl) fun K hK => ?_; simp [*]) | with_reducible refine pwp_block ?_ | with_reducible refine pwp_skip ?_ | with_reducible refine pwp_ret ?_ | with_reducible refine pwp_exit ?_ | (with_reducible refine cond_t ?_ ?_; (focus (simp [*]; done))) | (with_reducible refine cond_f ?_ ?_; (focus (simp [*]; done))) | with_reducible refine then_n ?_ | with_reducible refine then_r ?_ | with_reducible refine then_e ?_ | with_reducible refine then_g ?_ | with_reducible refine inB_n ?_ | with_reducible refine inB_r ?_ | with_reducible refine inB_e ?_ | with_reducible refine inB_o rfl ?_ | with_reducible refine inB_g ?_ | with_reducible refine Leads.go (by assumption) ?_)
      refine PCalls.mono (hfs _) ?_
      rintro _ H ⟨rfl, rfl⟩
      clear hfs hf hone
      try simp [*]
      repeat (first | with_reducible refine seq_k fun K hK => ?_ | (with_reducible refine region_k fun K hK => ?_; simp [*]) | (with_reducible refine region_draw_k mixedO (by kernel_rfl) fun K hK => ?_; simp [*]) | with_reducible refine pwp_block ?_ | with_reducible refine pwp_skip ?_ | with_reducible refine pwp_ret ?_ | with_reducible refine pwp_exit ?_ | (with_reducible refine cond_t ?_ ?_; (focus (simp [*]; done))) | (with_reducible refine cond_f ?_ ?_; (focus (simp [*]; done))) | with_reducible refine then_n ?_ | with_reducible refine then_r ?_ | with_reducible refine then_e ?_ | with_reducible refine then_g ?_ | with_reducible refine inB_n ?_ | with_reducible refine inB_r ?_ | with_reducible refine inB_e ?_ | with_reducible refine inB_o rfl ?_ | with_reducible refine inB_g ?_ | with_reducible refine Leads.go (by assumption) ?_)
      simp [*]
  · rintro ⟨E, H, df⟩ ⟨en, edf, ⟨e0, e5, e6, e28, e29, e30, -⟩, eA, eP⟩
    simp only at en edf e0 e5 e6 e28 e29 e30 eA
    subst edf
    rw [List.take_length] at eA eP
    obtain ⟨g9, e9, hz, he9⟩ := fz_growS (P := Try.prog) eA
    refine pwp_freeze (k := 20) [(8, .slice g9 e9 (lb (namesB bs)))] ?_ ?_
    · intro p hp
      simp only [List.mem_singleton] at hp
      subst hp
      exact hz
    simp only [setAll_cons, setAll_nil]
    clear hz eA
    have hcv1 : (okAt bs = false) = False := by simp [eP]
    have hnl : (namesB bs).length ≤ 100000 := by simp [namesB]; exact hl2
    have hmu2 : (mustU ks).length ≤ 100000 := by omega
    have hma2 : (mayU ks).length ≤ 100000 := by omega
    have kv : Hold (checkV ks bs = if oneB ks = false then 16 else if ((mustU ks).all fun m => decide (m ∈ namesB bs)) = false then 11 else
      if ((namesB bs).all fun n => decide (n ∈ mustU ks) || decide (n ∈ mayU ks)) = false then 2 else 0) := ⟨by rw [checkV, if_neg (by rw [eP]; decide)]⟩
    generalize checkV ks bs = cv at *
    generalize namesB bs = N at *
    generalize mustU ks = U at *
    generalize mayU ks = V at *
    clear hmu hma hcv1 hchk eP hs hs2 he2
    repeat (first | with_reducible refine seq_k fun K hK => ?_ | (with_reducible refine region_k fun K hK => ?_; simp [*]) | (with_reducible refine region_draw_k mixedO (by kernel_rfl) fun K hK => ?_; simp [*]) | with_reducible refine pwp_block ?_ | with_reducible refine pwp_skip ?_ | with_reducible refine pwp_ret ?_ | with_reducible refine pwp_exit ?_ | (with_reducible refine cond_t ?_ ?_; (focus (simp [*]; done))) | (with_reducible refine cond_f ?_ ?_; (focus (simp [*]; done))) | with_reducible refine then_n ?_ | with_reducible refine then_r ?_ | with_reducible refine then_e ?_ | with_reducible refine then_g ?_ | with_reducible refine inB_n ?_ | with_reducible refine inB_r ?_ | with_reducible refine inB_e ?_ | with_reducible refine inB_o rfl ?_ | with_reducible refine inB_g ?_ | with_reducible refine Leads.go (by assumption) ?_)
    refine PCalls.mono (hf _) ?_
    rintro _ _ ⟨rfl, rfl⟩
    clear hf
    try simp [*]
    repeat (first | with_reducible refine seq_k fun K hK => ?_ | (with_reducible refine region_k fun K hK => ?_; simp [*]) | (with_reducible refine region_draw_k mixedO (by kernel_rfl) fun K hK => ?_; simp [*]) | with_reducible refine pwp_block ?_ | with_reducible refine pwp_skip ?_ | with_reducible refine pwp_ret ?_ | with_reducible refine pwp_exit ?_ | (with_reducible refine cond_t ?_ ?_; (focus (simp [*]; done))) | (with_reducible refine cond_f ?_ ?_; (focus (simp [*]; done))) | with_reducible refine then_n ?_ | with_reducible refine then_r ?_ | with_reducible refine then_e ?_ | with_reducible refine then_g ?_ | with_reducible refine inB_n ?_ | with_reducible refine inB_r ?_ | with_reducible refine inB_e ?_ | with_reducible refine inB_o rfl ?_ | with_reducible refine inB_g ?_ | with_reducible refine Leads.go (by assumption) ?_)
    refine PCalls.mono (hone _) ?_
    rintro _ _ ⟨rfl, rfl⟩
    clear hone
    by_cases ho : oneB ks = true
    · have kv2 : Hold (cv = if (U.all fun m => decide (m ∈ N)) = false then 11 else if (N.all fun n => decide (n ∈ U) || decide (n ∈ V)) = false then 2 else 0) := ⟨by rw [kv.out, if_neg (by rw [ho]; decide)]⟩
      clear kv
      simp [*]
      repeat (first | with_reducible refine seq_k fun K hK => ?_ | (with_reducible refine region_k fun K hK => ?_; simp [*]) | (with_reducible refine region_draw_k mixedO (by kernel_rfl) fun K hK => ?_; simp [*]) | with_reducible refine pwp_block ?_ | with_reducible refine pwp_skip ?_ | with_reducible refine pwp_ret ?_ | with_reducible refine pwp_exit ?_ | (with_reducible refine cond_t ?_ ?_; (focus (simp [*]; done))) | (with_reducible refine cond_f ?_ ?_; (focus (simp [*]; done))) | with_reducible refine then_n ?_ | with_reducible refine then_r ?_ | with_reducible refine then_e ?_ | with_reducible refine then_g ?_ | with_reducible refine inB_n ?_ | with_reducible refine inB_r ?_ | with_reducible refine inB_e ?_ | with_reducible refine inB_o rfl ?_ | with_reducible refine inB_g ?_ | with_reducible refine Leads.go (by assumption) ?_)
      refine pwp_for U.length (fun k st => st.env.n = 83 ∧ st.df = [] ∧ slots st.env [(5, .slice a1 b1 (lb U)), (6, .slice a2 b2 (lb V)), (8, .slice g9 e9 (lb N)), (55, .slice a1 b1 (lb U)), (56, .val (.int .i64 U.length)), (57, .val (.int .i64 k))] ∧ (U.take k).all (fun m => decide (m ∈ N)) = true) ?_ ?_ ?_
      · simp [*]
      · clear en e0 e5 e6 e28 e29 e30
        rintro k ⟨E, H, df⟩ h ⟨en, edf, ⟨e5, e6, e8, e55, e56, e57, -⟩, eP⟩
        simp only at en edf e5 e6 e8 e55 e56 e57
        subst edf
        have hki : (k : Int) < (U.length : Int) := by omega
        obtain ⟨c, hc⟩ : ∃ c, U[k]? = some c := ⟨_, List.getElem?_eq_getElem h⟩
        have hL := lb_get hc
        have hge := get_of hL
        have hLl : (lb U).length = U.length := lb_len U
        obtain rfl : b1 = 9 := q1.resolve_left (fun q => by subst q; simp at h)
        have hw := wrapSucc k (by omega)
        have hT : (U.take (k + 1)).all (fun m => decide (m ∈ N)) = decide (c ∈ N) := by rw [List.take_add_one, hc, List.all_append, eP]; simp
        have kT := Hold.mk hT
        have khc := Hold.mk (List.mem_of_getElem? hc)
        have hct := containsS_spec g9 e9 N c he9 hnl
        clear hT eP hc
        generalize lb U = L at *
        repeat (first | with_reducible refine seq_k fun K hK => ?_ | (with_reducible refine region_k fun K hK => ?_; simp [*]) | (with_reducible refine region_draw_k mixedO (by kernel_rfl) fun K hK => ?_; simp [*]) | with_reducible refine pwp_block ?_ | with_reducible refine pwp_skip ?_ | with_reducible refine pwp_ret ?_ | with_reducible refine pwp_exit ?_ | (with_reducible refine cond_t ?_ ?_; (focus (simp [*]; done))) | (with_reducible refine cond_f ?_ ?_; (focus (simp [*]; done))) | with_reducible refine then_n ?_ | with_reducible refine then_r ?_ | with_reducible refine then_e ?_ | with_reducible refine then_g ?_ | with_reducible refine inB_n ?_ | with_reducible refine inB_r ?_ | with_reducible refine inB_e ?_ | with_reducible refine inB_o rfl ?_ | with_reducible refine inB_g ?_ | with_reducible refine Leads.go (by assumption) ?_)
        refine PCalls.mono (hct _) ?_
        rintro _ _ ⟨rfl, rfl⟩
        clear hct
        by_cases h1 : c ∈ N
        · have kT2 : Hold (List.all (U.take (k + 1)) (fun m => decide (m ∈ N)) = true) := ⟨by rw [kT.out]; simpa using h1⟩
          clear kT
          try simp [*]
          repeat (first | with_reducible refine seq_k fun K hK => ?_ | (with_reducible refine region_k fun K hK => ?_; simp [*]) | (with_reducible refine region_draw_k mixedO (by kernel_rfl) fun K hK => ?_; simp [*]) | with_reducible refine pwp_block ?_ | with_reducible refine pwp_skip ?_ | with_reducible refine pwp_ret ?_ | with_reducible refine pwp_exit ?_ | (with_reducible refine cond_t ?_ ?_; (focus (simp [*]; done))) | (with_reducible refine cond_f ?_ ?_; (focus (simp [*]; done))) | with_reducible refine then_n ?_ | with_reducible refine then_r ?_ | with_reducible refine then_e ?_ | with_reducible refine then_g ?_ | with_reducible refine inB_n ?_ | with_reducible refine inB_r ?_ | with_reducible refine inB_e ?_ | with_reducible refine inB_o rfl ?_ | with_reducible refine inB_g ?_ | with_reducible refine Leads.go (by assumption) ?_)
          refine ⟨by simp [*], rfl, by simp [*], kT2.out⟩
        · have hv : cv = 11 := by
            rw [kv2.out, if_pos]
            rw [List.all_eq_false]
            exact ⟨c, khc.out, by simpa using h1⟩
          clear kT kv2
          try simp [*]
          repeat (first | with_reducible refine seq_k fun K hK => ?_ | (with_reducible refine region_k fun K hK => ?_; simp [*]) | (with_reducible refine region_draw_k mixedO (by kernel_rfl) fun K hK => ?_; simp [*]) | with_reducible refine pwp_block ?_ | with_reducible refine pwp_skip ?_ | with_reducible refine pwp_ret ?_ | with_reducible refine pwp_exit ?_ | (with_reducible refine cond_t ?_ ?_; (focus (simp [*]; done))) | (with_reducible refine cond_f ?_ ?_; (focus (simp [*]; done))) | with_reducible refine then_n ?_ | with_reducible refine then_r ?_ | with_reducible refine then_e ?_ | with_reducible refine then_g ?_ | with_reducible refine inB_n ?_ | with_reducible refine inB_r ?_ | with_reducible refine inB_e ?_ | with_reducible refine inB_o rfl ?_ | with_reducible refine inB_g ?_ | with_reducible refine Leads.go (by assumption) ?_)
          simp [*]
      · clear en e0 e5 e6 e28 e29 e30
        rintro ⟨E, H, df⟩ ⟨en, edf, ⟨e5, e6, e8, e55, e56, e57, -⟩, eP⟩
        simp only at en edf e5 e6 e8 e55 e56 e57
        subst edf
        rw [List.take_length] at eP
        have kv3 : Hold (cv = if (N.all fun n => decide (n ∈ U) || decide (n ∈ V)) = false then 2 else 0) := ⟨by rw [kv2.out, if_neg (by rw [eP]; decide)]⟩
        clear kv2 eP
        repeat (first | with_reducible refine seq_k fun K hK => ?_ | (with_reducible refine region_k fun K hK => ?_; simp [*]) | (with_reducible refine region_draw_k mixedO (by kernel_rfl) fun K hK => ?_; simp [*]) | with_reducible refine pwp_block ?_ | with_reducible refine pwp_skip ?_ | with_reducible refine pwp_ret ?_ | with_reducible refine pwp_exit ?_ | (with_reducible refine cond_t ?_ ?_; (focus (simp [*]; done))) | (with_reducible refine cond_f ?_ ?_; (focus (simp [*]; done))) | with_reducible refine then_n ?_ | with_reducible refine then_r ?_ | with_reducible refine then_e ?_ | with_reducible refine then_g ?_ | with_reducible refine inB_n ?_ | with_reducible refine inB_r ?_ | with_reducible refine inB_e ?_ | with_reducible refine inB_o rfl ?_ | with_reducible refine inB_g ?_ | with_reducible refine Leads.go (by assumption) ?_)
        refine pwp_for N.length (fun k st => st.env.n = 83 ∧ st.df = [] ∧ slots st.env [(5, .slice a1 b1 (lb U)), (6, .slice a2 b2 (lb V)), (66, .slice g9 e9 (lb N)), (67, .val (.int .i64 N.length)), (68, .val (.int .i64 k))] ∧ (N.take k).all (fun n => decide (n ∈ U) || decide (n ∈ V)) = true) ?_ ?_ ?_
        · simp [*]
        · clear en e5 e6 e8 e55 e56 e57
          rintro k ⟨E, H, df⟩ h ⟨en, edf, ⟨e5, e6, e66, e67, e68, -⟩, eP⟩
          simp only at en edf e5 e6 e66 e67 e68
          subst edf
          have hki : (k : Int) < (N.length : Int) := by omega
          obtain ⟨c, hc⟩ : ∃ c, N[k]? = some c := ⟨_, List.getElem?_eq_getElem h⟩
          have hL := lb_get hc
          have hge := get_of hL
          have hLl : (lb N).length = N.length := lb_len N
          obtain rfl : e9 = 9 := he9.resolve_left (fun q => by subst q; simp at h)
          have hw := wrapSucc k (by omega)
          have hT : (N.take (k + 1)).all (fun n => decide (n ∈ U) || decide (n ∈ V)) = (decide (c ∈ U) || decide (c ∈ V)) := by rw [List.take_add_one, hc, List.all_append, eP]; simp
          have kT := Hold.mk hT
          have khc := Hold.mk (List.mem_of_getElem? hc)
          have hct := containsS_spec a1 b1 U c q1 hmu2
          have hct2 := containsS_spec a2 b2 V c q2 hma2
          clear hT eP hc
          generalize lb N = L at *
          repeat (first | with_reducible refine seq_k fun K hK => ?_ | (with_reducible refine region_k fun K hK => ?_; simp [*]) | (with_reducible refine region_draw_k mixedO (by kernel_rfl) fun K hK => ?_; simp [*]) | with_reducible refine pwp_block ?_ | with_reducible refine pwp_skip ?_ | with_reducible refine pwp_ret ?_ | with_reducible refine pwp_exit ?_ | (with_reducible refine cond_t ?_ ?_; (focus (simp [*]; done))) | (with_reducible refine cond_f ?_ ?_; (focus (simp [*]; done))) | with_reducible refine then_n ?_ | with_reducible refine then_r ?_ | with_reducible refine then_e ?_ | with_reducible refine then_g ?_ | with_reducible refine inB_n ?_ | with_reducible refine inB_r ?_ | with_reducible refine inB_e ?_ | with_reducible refine inB_o rfl ?_ | with_reducible refine inB_g ?_ | with_reducible refine Leads.go (by assumption) ?_)
          refine PCalls.mono (hct _) ?_
          rintro _ _ ⟨rfl, rfl⟩
          clear hct
          by_cases h1 : c ∈ U
          · have kT2 : Hold (List.all (N.take (k + 1)) (fun n => decide (n ∈ U) || decide (n ∈ V)) = true) := ⟨by rw [kT.out]; simp [h1]⟩
            clear kT hct2
            try simp [*]
            repeat (first | with_reducible refine seq_k fun K hK => ?_ | (with_reducible refine region_k fun K hK => ?_; simp [*]) | (with_reducible refine region_draw_k mixedO (by kernel_rfl) fun K hK => ?_; simp [*]) | with_reducible refine pwp_block ?_ | with_reducible refine pwp_skip ?_ | with_reducible refine pwp_ret ?_ | with_reducible refine pwp_exit ?_ | (with_reducible refine cond_t ?_ ?_; (focus (simp [*]; done))) | (with_reducible refine cond_f ?_ ?_; (focus (simp [*]; done))) | with_reducible refine then_n ?_ | with_reducible refine then_r ?_ | with_reducible refine then_e ?_ | with_reducible refine then_g ?_ | with_reducible refine inB_n ?_ | with_reducible refine inB_r ?_ | with_reducible refine inB_e ?_ | with_reducible refine inB_o rfl ?_ | with_reducible refine inB_g ?_ | with_reducible refine Leads.go (by assumption) ?_)
            refine ⟨by simp [*], rfl, by simp [*], kT2.out⟩
          · try simp [*]
            refine PCalls.mono (hct2 _) ?_
            rintro _ _ ⟨rfl, rfl⟩
            clear hct2
            by_cases h2 : c ∈ V
            · have kT2 : Hold (List.all (N.take (k + 1)) (fun n => decide (n ∈ U) || decide (n ∈ V)) = true) := ⟨by rw [kT.out]; simp [h2]⟩
              clear kT
              try simp [*]
              repeat (first | with_reducible refine seq_k fun K hK => ?_ | (with_reducible refine region_k fun K hK => ?_; simp [*]) | (with_reducible refine region_draw_k mixedO (by kernel_rfl) fun K hK => ?_; simp [*]) | with_reducible refine pwp_block ?_ | with_reducible refine pwp_skip ?_ | with_reducible refine pwp_ret ?_ | with_reducible refine pwp_exit ?_ | (with_reducible refine cond_t ?_ ?_; (focus (simp [*]; done))) | (with_reducible refine cond_f ?_ ?_; (focus (simp [*]; done))) | with_reducible refine then_n ?_ | with_reducible refine then_r ?_ | with_reducible refine then_e ?_ | with_reducible refine then_g ?_ | with_reducible refine inB_n ?_ | with_reducible refine inB_r ?_ | with_reducible refine inB_e ?_ | with_reducible refine inB_o rfl ?_ | with_reducible refine inB_g ?_ | with_reducible refine Leads.go (by assumption) ?_)
              refine ⟨by simp [*], rfl, by simp [*], kT2.out⟩
            · have hv : cv = 2 := by
                rw [kv3.out, if_pos]
                rw [List.all_eq_false]
                exact ⟨c, khc.out, by simp [h1, h2]⟩
              clear kT kv3
              try simp [*]
              repeat (first | with_reducible refine seq_k fun K hK => ?_ | (with_reducible refine region_k fun K hK => ?_; simp [*]) | (with_reducible refine region_draw_k mixedO (by kernel_rfl) fun K hK => ?_; simp [*]) | with_reducible refine pwp_block ?_ | with_reducible refine pwp_skip ?_ | with_reducible refine pwp_ret ?_ | with_reducible refine pwp_exit ?_ | (with_reducible refine cond_t ?_ ?_; (focus (simp [*]; done))) | (with_reducible refine cond_f ?_ ?_; (focus (simp [*]; done))) | with_reducible refine then_n ?_ | with_reducible refine then_r ?_ | with_reducible refine then_e ?_ | with_reducible refine then_g ?_ | with_reducible refine inB_n ?_ | with_reducible refine inB_r ?_ | with_reducible refine inB_e ?_ | with_reducible refine inB_o rfl ?_ | with_reducible refine inB_g ?_ | with_reducible refine Leads.go (by assumption) ?_)
              simp [*]
        · clear en e5 e6 e8 e55 e56 e57
          rintro ⟨E, H, df⟩ ⟨en, edf, ⟨e5, e6, e66, e67, e68, -⟩, eP⟩
          simp only at en edf e5 e6 e66 e67 e68
          subst edf
          rw [List.take_length] at eP
          have hv : cv = 0 := by rw [kv3.out, if_neg (by rw [eP]; decide)]
          clear kv3 eP
          repeat (first | with_reducible refine seq_k fun K hK => ?_ | (with_reducible refine region_k fun K hK => ?_; simp [*]) | (with_reducible refine region_draw_k mixedO (by kernel_rfl) fun K hK => ?_; simp [*]) | with_reducible refine pwp_block ?_ | with_reducible refine pwp_skip ?_ | with_reducible refine pwp_ret ?_ | with_reducible refine pwp_exit ?_ | (with_reducible refine cond_t ?_ ?_; (focus (simp [*]; done))) | (with_reducible refine cond_f ?_ ?_; (focus (simp [*]; done))) | with_reducible refine then_n ?_ | with_reducible refine then_r ?_ | with_reducible refine then_e ?_ | with_reducible refine then_g ?_ | with_reducible refine inB_n ?_ | with_reducible refine inB_r ?_ | with_reducible refine inB_e ?_ | with_reducible refine inB_o rfl ?_ | with_reducible refine inB_g ?_ | with_reducible refine Leads.go (by assumption) ?_)
          simp [*]
    · have ho' : oneB ks = false := by simpa using ho
      have hv : cv = 16 := by rw [kv.out, if_pos ho']
      clear kv
      simp [*]
      repeat (first | with_reducible refine seq_k fun K hK => ?_ | (with_reducible refine region_k fun K hK => ?_; simp [*]) | (with_reducible refine region_draw_k mixedO (by kernel_rfl) fun K hK => ?_; simp [*]) | with_reducible refine pwp_block ?_ | with_reducible refine pwp_skip ?_ | with_reducible refine pwp_ret ?_ | with_reducible refine pwp_exit ?_ | (with_reducible refine cond_t ?_ ?_; (focus (simp [*]; done))) | (with_reducible refine cond_f ?_ ?_; (focus (simp [*]; done))) | with_reducible refine then_n ?_ | with_reducible refine then_r ?_ | with_reducible refine then_e ?_ | with_reducible refine then_g ?_ | with_reducible refine inB_n ?_ | with_reducible refine inB_r ?_ | with_reducible refine inB_e ?_ | with_reducible refine inB_o rfl ?_ | with_reducible refine inB_g ?_ | with_reducible refine Leads.go (by assumption) ?_)
      simp [*]
set_option maxHeartbeats 8000000 in
set_option maxRecDepth 100000 in
theorem Check_bad (g g2 : Nat) (e e2 : TypeId) (ss bs : List ByteArray) (he : ss = [] ∨ e = 9) (hs : ∀ s ∈ ss, s.size ≤ 140737488351232) (hl : ss.length ≤ 1000) (hok : okAll ss = false) :
    PCalls Try.prog 22 [.slice g e (ss.map strD), .slice g2 e2 (bs.map strD)] (noHeap noG) fun d _ => d = .val (.int .i64 13) := by
  refine PCalls.of_pwp Try.call22 Try.func22 rfl (by simp [Try.ntmps22]) ?_
  rw [Try.ntmps22]
  have hAll := All_spec g e ss he hs hl
  generalize hLS : ss.map strD = LS at *
  repeat (first | with_reducible refine seq_k fun K hK => ?_ | (with_reducible refine region_k fun K hK => ?_; simp [*]) | (with_reducible refine region_draw_k mixedO (by kernel_rfl) fun K hK => ?_; simp [*]) | with_reducible refine pwp_block ?_ | with_reducible refine pwp_skip ?_ | with_reducible refine pwp_ret ?_ | with_reducible refine pwp_exit ?_ | (with_reducible refine cond_t ?_ ?_; (focus (simp [*]; done))) | (with_reducible refine cond_f ?_ ?_; (focus (simp [*]; done))) | with_reducible refine then_n ?_ | with_reducible refine then_r ?_ | with_reducible refine then_e ?_ | with_reducible refine then_g ?_ | with_reducible refine inB_n ?_ | with_reducible refine inB_r ?_ | with_reducible refine inB_e ?_ | with_reducible refine inB_o rfl ?_ | with_reducible refine inB_g ?_ | with_reducible refine Leads.go (by assumption) ?_)
  refine PCalls.mono (hAll _) ?_
  rintro r _ ⟨hr, rfl⟩
  rw [AllRes, if_neg (by rw [hok]; decide)] at hr
  subst hr
  try simp [*]
  repeat (first | with_reducible refine seq_k fun K hK => ?_ | (with_reducible refine region_k fun K hK => ?_; simp [*]) | (with_reducible refine region_draw_k mixedO (by kernel_rfl) fun K hK => ?_; simp [*]) | with_reducible refine pwp_block ?_ | with_reducible refine pwp_skip ?_ | with_reducible refine pwp_ret ?_ | with_reducible refine pwp_exit ?_ | (with_reducible refine cond_t ?_ ?_; (focus (simp [*]; done))) | (with_reducible refine cond_f ?_ ?_; (focus (simp [*]; done))) | with_reducible refine then_n ?_ | with_reducible refine then_r ?_ | with_reducible refine then_e ?_ | with_reducible refine then_g ?_ | with_reducible refine inB_n ?_ | with_reducible refine inB_r ?_ | with_reducible refine inB_e ?_ | with_reducible refine inB_o rfl ?_ | with_reducible refine inB_g ?_ | with_reducible refine Leads.go (by assumption) ?_)
  simp [*]
def checkR (ss bs : List ByteArray) : Int := if okAll ss = true then checkV (ss.map fcls) bs else 13
theorem Check_spec (g g2 : Nat) (e e2 : TypeId) (ss bs : List ByteArray) (he : ss = [] ∨ e = 9) (he2 : bs = [] ∨ e2 = 9) (hs : ∀ s ∈ ss, s.size ≤ 140737488351232) (hs2 : ∀ s ∈ bs, s.size ≤ 140737488351232) (hl : ss.length ≤ 1000) (hl2 : bs.length ≤ 100000) (H : Heap) :
    PCalls Try.prog 22 [.slice g e (ss.map strD), .slice g2 e2 (bs.map strD)] H fun d H' => d = .val (.int .i64 (checkR ss bs)) ∧ H' = H := by
  refine PCalls.liftG ?_ (fun d hd => by simp only [List.mem_cons, List.mem_nil_iff, or_false] at hd; rcases hd with rfl | rfl <;> exact pure_strs _ _ _) (.val _) H
  by_cases hok : okAll ss = true
  · rw [checkR, if_pos hok]
    exact Check_local g g2 e e2 ss bs he he2 hs hs2 hl hl2 hok
  · rw [checkR, if_neg hok]
    exact Check_bad g g2 e e2 ss bs he hs hl (by simpa using hok)
end Go.Pv
