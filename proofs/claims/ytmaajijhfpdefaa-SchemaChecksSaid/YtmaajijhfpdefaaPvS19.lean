/- A part of the proof: functions of the program, walked, or what operations come to. -/
import Derived.Test.YtmaajijhfpdefaaPvS18
namespace Go.Pv
open Go.Proofs
attribute [local simp] Try.underlying29 Try.underlying34 Try.underlying43 strD Heap.new_get Heap.put_get eBuildSlice
theorem putR_spec (g : Nat) (e : TypeId) (l : List Bs) (s : Bs) (he : l = [] ∨ e = 9) (hl : l.length ≤ 100000) (H : Heap) : PCalls Try.prog 33 [.slice g e (lb l), .val (encStr s)] H fun d H' => strsD (putL l s) d ∧ H' = H :=
  PCalls.liftR (G := noG) (PCalls.frozenR (put_local g e l s he hl)) (fun d hd => by simp only [List.mem_cons, List.mem_nil_iff, or_false] at hd; rcases hd with rfl | rfl; exact pure_lb _ _ _; exact .val _)
    (fun d ⟨g, e, h, _⟩ => h ▸ pure_lb _ _ _) (fun g cs h => by cases h) (fun g cs h => by cases h)
/-! ### The reference: All -/
def putAll (M : List Bs) (xs : List Bs) : List Bs := xs.foldl putL M
theorem putL_len (l : List Bs) (s : Bs) : (putL l s).length ≤ l.length + 1 := by
  unfold putL; split
  · omega
  · simp; have := cutK_le l s; omega
theorem putAll_len : ∀ (xs M : List Bs), (putAll M xs).length ≤ M.length + xs.length
  | [], M => by simp [putAll]
  | x :: xs, M => by
    have := putAll_len xs (putL M x)
    have := putL_len M x
    simp only [putAll, List.foldl_cons, List.length_cons] at *
    omega
theorem putAll_succ {M xs : List Bs} {i : Nat} {x : Bs} (h : xs[i]? = some x) : putAll M (xs.take (i + 1)) = putL (putAll M (xs.take i)) x := by
  rw [List.take_add_one, h, putAll, List.foldl_append]; rfl
def meantB (ks : List Nat) (k : Nat) : Bool := ks.any fun c => abv k c
def allM (ks : List Nat) : Nat → List Bs
  | 0 => []
  | k + 1 => if meantB ks k = true then putAll (allM ks k) (byts (mu k)) else allM ks k
def allY (ks : List Nat) : Nat → List Bs
  | 0 => []
  | k + 1 => if meantB ks k = true then putAll (allY ks k) (byts (ma k)) else allY ks k
theorem allM_len (ks : List Nat) : ∀ k, (allM ks k).length ≤ 4 * k
  | 0 => by simp [allM]
  | k + 1 => by
    have := allM_len ks k
    have h2 := putAll_len (byts (mu k)) (allM ks k)
    have h3 := mu_len k
    rw [byts_len] at h2
    unfold allM; split <;> omega
theorem allY_len (ks : List Nat) : ∀ k, (allY ks k).length ≤ 4 * k
  | 0 => by simp [allY]
  | k + 1 => by
    have := allY_len ks k
    have h2 := putAll_len (byts (ma k)) (allY ks k)
    have h3 := ma_len k
    rw [byts_len] at h2
    unfold allY; split <;> omega
theorem listD_form (l : List ByteArray) : ∃ (g : Nat) (e : TypeId), listD 9 l = .slice g e (l.map strD) ∧ (l = [] ∨ e = 9) := by
  unfold listD
  split
  · rename_i h
    have : l = [] := by simpa using h
    subst this; exact ⟨1, 0, rfl, .inl rfl⟩
  · exact ⟨0, 9, rfl, .inr rfl⟩
theorem fz_growN {P : Program} {H : Heap} {acc : D} {l : List (List UInt8)} (n : Nat) (h : Grow H acc 9 (lb l)) : ∃ g e, fz P (n + 2) H acc = some (.slice g e (lb l)) ∧ (l = [] ∨ e = 9) := by
  rcases h with ⟨h1, rfl⟩ | ⟨i, _, rfl, hH, hne⟩
  · have : l = [] := by simpa using h1
    subst this; exact ⟨1, 0, rfl, .inl rfl⟩
  · have hz := fz_strow (P := P) n (u := l) hH (by rw [← lb_len l]; exact List.take_length)
    rw [lb_len]
    exact ⟨_, 9, hz, .inr rfl⟩
@[simp] theorem res21 : Try.f21.results.toList = [.tmp 2, .tmp 3, .tmp 4] := rfl
def AllRR (ss : List ByteArray) (d : D) : Prop := if okAll ss = true then ∃ d1 d2, d = .tup [d1, d2, .val (.int .i64 0)] ∧ strsD (allM (ss.map fcls) 10) d1 ∧ strsD (rest (allY (ss.map fcls) 10) (allM (ss.map fcls) 10)) d2 else d = .tup [.slice 1 0 [], .slice 1 0 [], .val (.int .i64 13)]
set_option maxHeartbeats 8000000 in
set_option maxRecDepth 100000 in
theorem AllR_local (g : Nat) (e : TypeId) (ss : List ByteArray) (he : ss = [] ∨ e = 9) (hs : ∀ s ∈ ss, s.size ≤ 140737488351232) (hl : ss.length ≤ 1000) : PCalls Try.prog 21 [.slice g e (ss.map strD)] (noHeap noG) fun d H' => ∃ r, fz Try.prog 20 H' d = some r ∧ AllRR ss r := by
  refine PCalls.of_pwp Try.call21 Try.func21 rfl (by simp [Try.ntmps21]) ?_
  rw [Try.ntmps21]
  have hget : ∀ k, k < ss.length → ∃ s, ss[k]? = some s ∧ (ss.map strD)[k]? = some (.val (.string s)) ∧ e = 9 ∧ s.size ≤ 140737488351232 ∧ (ss.map fcls)[k]? = some (fcls s) := fun k h => by
    have hc : ss[k]? = some ss[k] := List.getElem?_eq_getElem h
    exact ⟨ss[k], hc, by rw [List.getElem?_map, hc]; rfl, he.resolve_left (fun q => by subst q; simp at h), hs _ (List.mem_of_getElem? hc), by rw [List.getElem?_map, hc]; rfl⟩
  have kget := Hold.mk hget
  have hLl : (ss.map strD).length = ss.length := by simp
  clear hget
  repeat (first | with_reducible refine seq_k fun K hK => ?_ | (with_reducible refine region_k fun K hK => ?_; simp [*]) | (with_reducible refine region_draw_k mixedO (by decide +kernel) fun K hK => ?_; simp [*]) | with_reducible refine pwp_block ?_ | with_reducible refine pwp_skip ?_ | with_reducible refine pwp_ret ?_ | with_reducible refine pwp_exit ?_ | (with_reducible refine cond_t ?_ ?_; (focus (simp [*]; done))) | (with_reducible refine cond_f ?_ ?_; (focus (simp [*]; done))) | with_reducible refine then_n ?_ | with_reducible refine then_r ?_ | with_reducible refine then_e ?_ | with_reducible refine then_g ?_ | with_reducible refine inB_n ?_ | with_reducible refine inB_r ?_ | with_reducible refine inB_e ?_ | with_reducible refine inB_o rfl ?_ | with_reducible refine inB_g ?_ | with_reducible refine Leads.go (by assumption) ?_)
  refine pwp_for ss.length (fun k st => st.env.n = 136 ∧ st.df = [] ∧ slots st.env [(0, .slice g e (ss.map strD)), (5, .slice 1 0 []), (6, .slice 1 0 []), (7, .val (.int .i64 k))] ∧ okAll (ss.take k) = true) ?_ ?_ ?_
  · simp [okAll]
  · rintro k ⟨E, H, df⟩ h ⟨en, edf, ⟨e0, e5, e6, e7, -⟩, eP⟩
    simp only at en edf e0 e5 e6 e7
    subst edf
    have hki : (k : Int) < (ss.length : Int) := by omega
    obtain ⟨s, hc, hL, rfl, hss, _⟩ := kget.out k h
    have hge := get_of hL
    have hw := wrapSucc k (by omega)
    have hP : okAll (ss.take (k + 1)) = decide (fcls s < 10) := by rw [List.take_add_one, hc]; simp only [okAll, List.all_append] at eP ⊢; rw [eP]; simp
    have kP := Hold.mk hP
    have km := Hold.mk (List.mem_of_getElem? hc)
    have hfc := fun H => FindClassR_spec s H hss
    clear hP hc eP
    generalize hLL : ss.map strD = L at *
    clear hLL
    by_cases hf : fcls s < 10
    · have kP2 : Hold (okAll (ss.take (k + 1)) = true) := ⟨by rw [kP.out]; simpa using hf⟩
      clear kP
      repeat (first | with_reducible refine seq_k fun K hK => ?_ | (with_reducible refine region_k fun K hK => ?_; simp [*]) | (with_reducible refine region_draw_k mixedO (by decide +kernel) fun K hK => ?_; simp [*]) | with_reducible refine pwp_block ?_ | with_reducible refine pwp_skip ?_ | with_reducible refine pwp_ret ?_ | with_reducible refine pwp_exit ?_ | (with_reducible refine cond_t ?_ ?_; (focus (simp [*]; done))) | (with_reducible refine cond_f ?_ ?_; (focus (simp [*]; done))) | with_reducible refine then_n ?_ | with_reducible refine then_r ?_ | with_reducible refine then_e ?_ | with_reducible refine then_g ?_ | with_reducible refine inB_n ?_ | with_reducible refine inB_r ?_ | with_reducible refine inB_e ?_ | with_reducible refine inB_o rfl ?_ | with_reducible refine inB_g ?_ | with_reducible refine Leads.go (by assumption) ?_)
      refine PCalls.mono (hfc _) ?_
      rintro _ H ⟨rfl, rfl⟩
      clear hfc
      try simp [*]
      repeat (first | with_reducible refine seq_k fun K hK => ?_ | (with_reducible refine region_k fun K hK => ?_; simp [*]) | (with_reducible refine region_draw_k mixedO (by decide +kernel) fun K hK => ?_; simp [*]) | with_reducible refine pwp_block ?_ | with_reducible refine pwp_skip ?_ | with_reducible refine pwp_ret ?_ | with_reducible refine pwp_exit ?_ | (with_reducible refine cond_t ?_ ?_; (focus (simp [*]; done))) | (with_reducible refine cond_f ?_ ?_; (focus (simp [*]; done))) | with_reducible refine then_n ?_ | with_reducible refine then_r ?_ | with_reducible refine then_e ?_ | with_reducible refine then_g ?_ | with_reducible refine inB_n ?_ | with_reducible refine inB_r ?_ | with_reducible refine inB_e ?_ | with_reducible refine inB_o rfl ?_ | with_reducible refine inB_g ?_ | with_reducible refine Leads.go (by assumption) ?_)
      refine ⟨by simp [*], rfl, by simp [*], kP2.out⟩
    · have hall : okAll ss = false := by
        rw [okAll, List.all_eq_false]
        exact ⟨s, km.out, by simp [hf]⟩
      clear kP
      repeat (first | with_reducible refine seq_k fun K hK => ?_ | (with_reducible refine region_k fun K hK => ?_; simp [*]) | (with_reducible refine region_draw_k mixedO (by decide +kernel) fun K hK => ?_; simp [*]) | with_reducible refine pwp_block ?_ | with_reducible refine pwp_skip ?_ | with_reducible refine pwp_ret ?_ | with_reducible refine pwp_exit ?_ | (with_reducible refine cond_t ?_ ?_; (focus (simp [*]; done))) | (with_reducible refine cond_f ?_ ?_; (focus (simp [*]; done))) | with_reducible refine then_n ?_ | with_reducible refine then_r ?_ | with_reducible refine then_e ?_ | with_reducible refine then_g ?_ | with_reducible refine inB_n ?_ | with_reducible refine inB_r ?_ | with_reducible refine inB_e ?_ | with_reducible refine inB_o rfl ?_ | with_reducible refine inB_g ?_ | with_reducible refine Leads.go (by assumption) ?_)
      refine PCalls.mono (hfc _) ?_
      rintro _ H ⟨rfl, rfl⟩
      clear hfc
      try simp [*]
      repeat (first | with_reducible refine seq_k fun K hK => ?_ | (with_reducible refine region_k fun K hK => ?_; simp [*]) | (with_reducible refine region_draw_k mixedO (by decide +kernel) fun K hK => ?_; simp [*]) | with_reducible refine pwp_block ?_ | with_reducible refine pwp_skip ?_ | with_reducible refine pwp_ret ?_ | with_reducible refine pwp_exit ?_ | (with_reducible refine cond_t ?_ ?_; (focus (simp [*]; done))) | (with_reducible refine cond_f ?_ ?_; (focus (simp [*]; done))) | with_reducible refine then_n ?_ | with_reducible refine then_r ?_ | with_reducible refine then_e ?_ | with_reducible refine then_g ?_ | with_reducible refine inB_n ?_ | with_reducible refine inB_r ?_ | with_reducible refine inB_e ?_ | with_reducible refine inB_o rfl ?_ | with_reducible refine inB_g ?_ | with_reducible refine Leads.go (by assumption) ?_)
      simp [*]
      exact ⟨_, rfl, by rw [AllRR, if_neg (by rw [hall]; decide)]⟩
  · rintro ⟨E, H, df⟩ ⟨en, edf, ⟨e0, e5, e6, e7, -⟩, eP⟩
    simp only at en edf e0 e5 e6 e7
    subst edf
    rw [List.take_length] at eP
    have hk10 : ∀ s ∈ ss, fcls s < 10 := fun s hs => by
      have := List.all_eq_true.1 eP s hs
      simpa using this
    have kok := Hold.mk eP
    have kk10 := Hold.mk hk10
    clear eP hk10
    repeat (first | with_reducible refine seq_k fun K hK => ?_ | (with_reducible refine region_k fun K hK => ?_; simp [*]) | (with_reducible refine region_draw_k mixedO (by decide +kernel) fun K hK => ?_; simp [*]) | with_reducible refine pwp_block ?_ | with_reducible refine pwp_skip ?_ | with_reducible refine pwp_ret ?_ | with_reducible refine pwp_exit ?_ | (with_reducible refine cond_t ?_ ?_; (focus (simp [*]; done))) | (with_reducible refine cond_f ?_ ?_; (focus (simp [*]; done))) | with_reducible refine then_n ?_ | with_reducible refine then_r ?_ | with_reducible refine then_e ?_ | with_reducible refine then_g ?_ | with_reducible refine inB_n ?_ | with_reducible refine inB_r ?_ | with_reducible refine inB_e ?_ | with_reducible refine inB_o rfl ?_ | with_reducible refine inB_g ?_ | with_reducible refine Leads.go (by assumption) ?_)
    refine PCalls.mono (ClassesR_spec _) ?_
    rintro _ H ⟨rfl, rfl⟩
    try simp [*]
    repeat (first | with_reducible refine seq_k fun K hK => ?_ | (with_reducible refine region_k fun K hK => ?_; simp [*]) | (with_reducible refine region_draw_k mixedO (by decide +kernel) fun K hK => ?_; simp [*]) | with_reducible refine pwp_block ?_ | with_reducible refine pwp_skip ?_ | with_reducible refine pwp_ret ?_ | with_reducible refine pwp_exit ?_ | (with_reducible refine cond_t ?_ ?_; (focus (simp [*]; done))) | (with_reducible refine cond_f ?_ ?_; (focus (simp [*]; done))) | with_reducible refine then_n ?_ | with_reducible refine then_r ?_ | with_reducible refine then_e ?_ | with_reducible refine then_g ?_ | with_reducible refine inB_n ?_ | with_reducible refine inB_r ?_ | with_reducible refine inB_e ?_ | with_reducible refine inB_o rfl ?_ | with_reducible refine inB_g ?_ | with_reducible refine Leads.go (by assumption) ?_)
    refine pwp_for 10 (fun k st => st.env.n = 136 ∧ st.df = [] ∧ slots st.env [(0, .slice g e (ss.map strD)), (10, .slice 0 34 ((List.range 10).map clD)), (11, .val (.int .i64 k))] ∧ strsD (allM (ss.map fcls) k) (st.env.get 5) ∧ strsD (allY (ss.map fcls) k) (st.env.get 6)) ?_ ?_ ?_
    · refine ⟨by simp [*], rfl, by simp [*], ⟨1, 0, by simp [*]; rfl, .inl rfl⟩, ⟨1, 0, by simp [*]; rfl, .inl rfl⟩⟩
    · clear en e0 e5 e6 e7
      rintro k ⟨E, H, df⟩ h ⟨en, edf, ⟨e0, e10, e11, -⟩, ⟨g5, e5', f5, q5⟩, ⟨g6, e6', f6, q6⟩⟩
      simp only at en edf e0 e10 e11 f5 f6
      subst edf
      have hki : (k : Int) < 10 := by omega
      have hCL : ((List.range 10).map clD)[k]? = some (clD k) := by rw [List.getElem?_map, List.getElem?_range h]; rfl
      have hCl : ((List.range 10).map clD).length = 10 := by simp
      have hCge := get_of hCL
      have hwk := wrapSucc k (by omega)
      generalize (List.range 10).map clD = C at *
      repeat (first | with_reducible refine seq_k fun K hK => ?_ | (with_reducible refine region_k fun K hK => ?_; simp [*]) | (with_reducible refine region_draw_k mixedO (by decide +kernel) fun K hK => ?_; simp [*]) | with_reducible refine pwp_block ?_ | with_reducible refine pwp_skip ?_ | with_reducible refine pwp_ret ?_ | with_reducible refine pwp_exit ?_ | (with_reducible refine cond_t ?_ ?_; (focus (simp [*]; done))) | (with_reducible refine cond_f ?_ ?_; (focus (simp [*]; done))) | with_reducible refine then_n ?_ | with_reducible refine then_r ?_ | with_reducible refine then_e ?_ | with_reducible refine then_g ?_ | with_reducible refine inB_n ?_ | with_reducible refine inB_r ?_ | with_reducible refine inB_e ?_ | with_reducible refine inB_o rfl ?_ | with_reducible refine inB_g ?_ | with_reducible refine Leads.go (by assumption) ?_)
      refine pwp_for ss.length (fun i st => st.env.n = 136 ∧ st.df = [] ∧ slots st.env [(0, .slice g e (ss.map strD)), (5, .slice g5 e5' (lb (allM (ss.map fcls) k))), (6, .slice g6 e6' (lb (allY (ss.map fcls) k))), (10, .slice 0 34 C), (11, .val (.int .i64 k)), (12, .val (.bool (meantB ((ss.map fcls).take i) k))), (13, .val (.int .i64 i))]) ?_ ?_ ?_
      · simp [*, meantB]
      · clear en e0 e10 e11 f5 f6
        rintro i ⟨E, H, df⟩ hi ⟨en, edf, ⟨e0, f5, f6, e10, e11, e12, e13, -⟩⟩
        simp only at en edf e0 f5 f6 e10 e11 e12 e13
        subst edf
        have hii : (i : Int) < (ss.length : Int) := by omega
        obtain ⟨s, hc, hL, rfl, hss, hfk⟩ := kget.out i hi
        have hge := get_of hL
        have hw := wrapSucc i (by omega)
        have hf10 := kk10.out s (List.mem_of_getElem? hc)
        have hT : meantB ((ss.map fcls).take (i + 1)) k = (meantB ((ss.map fcls).take i) k || abv k (fcls s)) := by rw [List.take_add_one, hfk, meantB, List.any_append]; simp [meantB]
        have kT := Hold.mk hT
        have hfc := fun H => FindClassR_spec s H hss
        have hab := AboveR_spec h hf10
        clear hT hc hfk
        generalize meantB ((ss.map fcls).take i) k = b at *
        generalize allM (ss.map fcls) k = M at *
        generalize allY (ss.map fcls) k = Y at *
        generalize ss.map strD = L at *
        generalize fcls s = c at *
        repeat (first | with_reducible refine seq_k fun K hK => ?_ | (with_reducible refine region_k fun K hK => ?_; simp [*]) | (with_reducible refine region_draw_k mixedO (by decide +kernel) fun K hK => ?_; simp [*]) | with_reducible refine pwp_block ?_ | with_reducible refine pwp_skip ?_ | with_reducible refine pwp_ret ?_ | with_reducible refine pwp_exit ?_ | (with_reducible refine cond_t ?_ ?_; (focus (simp [*]; done))) | (with_reducible refine cond_f ?_ ?_; (focus (simp [*]; done))) | with_reducible refine then_n ?_ | with_reducible refine then_r ?_ | with_reducible refine then_e ?_ | with_reducible refine then_g ?_ | with_reducible refine inB_n ?_ | with_reducible refine inB_r ?_ | with_reducible refine inB_e ?_ | with_reducible refine inB_o rfl ?_ | with_reducible refine inB_g ?_ | with_reducible refine Leads.go (by assumption) ?_)
        refine PCalls.mono (hfc _) ?_
        rintro _ H ⟨rfl, rfl⟩
        clear hfc
        cases b with
        | true =>
          have kT2 : Hold (meantB ((ss.map fcls).take (i + 1)) k = true) := ⟨by rw [kT.out]; rfl⟩
          clear kT hab
          try simp [*]
          repeat (first | with_reducible refine seq_k fun K hK => ?_ | (with_reducible refine region_k fun K hK => ?_; simp [*]) | (with_reducible refine region_draw_k mixedO (by decide +kernel) fun K hK => ?_; simp [*]) | with_reducible refine pwp_block ?_ | with_reducible refine pwp_skip ?_ | with_reducible refine pwp_ret ?_ | with_reducible refine pwp_exit ?_ | (with_reducible refine cond_t ?_ ?_; (focus (simp [*]; done))) | (with_reducible refine cond_f ?_ ?_; (focus (simp [*]; done))) | with_reducible refine then_n ?_ | with_reducible refine then_r ?_ | with_reducible refine then_e ?_ | with_reducible refine then_g ?_ | with_reducible refine inB_n ?_ | with_reducible refine inB_r ?_ | with_reducible refine inB_e ?_ | with_reducible refine inB_o rfl ?_ | with_reducible refine inB_g ?_ | with_reducible refine Leads.go (by assumption) ?_)
          rw [kT2.out]
          refine ⟨by simp [*], rfl, by simp [*]⟩
        | false =>
          have kT2 : Hold (meantB ((ss.map fcls).take (i + 1)) k = abv k c) := ⟨by rw [kT.out]; rfl⟩
          clear kT
          try simp [*]
          repeat (first | with_reducible refine seq_k fun K hK => ?_ | (with_reducible refine region_k fun K hK => ?_; simp [*]) | (with_reducible refine region_draw_k mixedO (by decide +kernel) fun K hK => ?_; simp [*]) | with_reducible refine pwp_block ?_ | with_reducible refine pwp_skip ?_ | with_reducible refine pwp_ret ?_ | with_reducible refine pwp_exit ?_ | (with_reducible refine cond_t ?_ ?_; (focus (simp [*]; done))) | (with_reducible refine cond_f ?_ ?_; (focus (simp [*]; done))) | with_reducible refine then_n ?_ | with_reducible refine then_r ?_ | with_reducible refine then_e ?_ | with_reducible refine then_g ?_ | with_reducible refine inB_n ?_ | with_reducible refine inB_r ?_ | with_reducible refine inB_e ?_ | with_reducible refine inB_o rfl ?_ | with_reducible refine inB_g ?_ | with_reducible refine Leads.go (by assumption) ?_)
          refine PCalls.mono (hab _) ?_
          rintro _ H ⟨rfl, rfl⟩
          clear hab
          try simp [*]
          repeat (first | with_reducible refine seq_k fun K hK => ?_ | (with_reducible refine region_k fun K hK => ?_; simp [*]) | (with_reducible refine region_draw_k mixedO (by decide +kernel) fun K hK => ?_; simp [*]) | with_reducible refine pwp_block ?_ | with_reducible refine pwp_skip ?_ | with_reducible refine pwp_ret ?_ | with_reducible refine pwp_exit ?_ | (with_reducible refine cond_t ?_ ?_; (focus (simp [*]; done))) | (with_reducible refine cond_f ?_ ?_; (focus (simp [*]; done))) | with_reducible refine then_n ?_ | with_reducible refine then_r ?_ | with_reducible refine then_e ?_ | with_reducible refine then_g ?_ | with_reducible refine inB_n ?_ | with_reducible refine inB_r ?_ | with_reducible refine inB_e ?_ | with_reducible refine inB_o rfl ?_ | with_reducible refine inB_g ?_ | with_reducible refine Leads.go (by assumption) ?_)
          rw [kT2.out]
          refine ⟨by simp [*], rfl, by simp [*]⟩
      · clear en e0 e10 e11 f5 f6
        rintro ⟨E, H, df⟩ ⟨en, edf, ⟨e0, f5, f6, e10, e11, e12, e13, -⟩⟩
        simp only at en edf e0 f5 f6 e10 e11 e12 e13
        subst edf
        have htk : (ss.map fcls).take ss.length = ss.map fcls := List.take_of_length_le (by simp)
        rw [htk] at e12
        have kM : Hold (allM (ss.map fcls) (k + 1) = if meantB (ss.map fcls) k = true then putAll (allM (ss.map fcls) k) (byts (mu k)) else allM (ss.map fcls) k) := ⟨rfl⟩
        have kY : Hold (allY (ss.map fcls) (k + 1) = if meantB (ss.map fcls) k = true then putAll (allY (ss.map fcls) k) (byts (ma k)) else allY (ss.map fcls) k) := ⟨rfl⟩
        have lM := allM_len (ss.map fcls) k
        have lY := allY_len (ss.map fcls) k
        obtain ⟨gm, em, hmu, qm⟩ := listD_form (mu k)
        obtain ⟨gy, ey, hma, qy⟩ := listD_form (ma k)
        have l4 := mu_len k
        have l5 := ma_len k
        generalize allM (ss.map fcls) (k + 1) = M2 at *
        generalize allY (ss.map fcls) (k + 1) = Y2 at *
        generalize meantB (ss.map fcls) k = b at *
        generalize allM (ss.map fcls) k = M at *
        generalize allY (ss.map fcls) k = Y at *
        repeat (first | with_reducible refine seq_k fun K hK => ?_ | (with_reducible refine region_k fun K hK => ?_; simp [*]) | (with_reducible refine region_draw_k mixedO (by decide +kernel) fun K hK => ?_; simp [*]) | with_reducible refine pwp_block ?_ | with_reducible refine pwp_skip ?_ | with_reducible refine pwp_ret ?_ | with_reducible refine pwp_exit ?_ | (with_reducible refine cond_t ?_ ?_; (focus (simp [*]; done))) | (with_reducible refine cond_f ?_ ?_; (focus (simp [*]; done))) | with_reducible refine then_n ?_ | with_reducible refine then_r ?_ | with_reducible refine then_e ?_ | with_reducible refine then_g ?_ | with_reducible refine inB_n ?_ | with_reducible refine inB_r ?_ | with_reducible refine inB_e ?_ | with_reducible refine inB_o rfl ?_ | with_reducible refine inB_g ?_ | with_reducible refine Leads.go (by assumption) ?_)
        refine pwp_for (if b = true then (mu k).length else 0) (fun i st => st.env.n = 136 ∧ st.df = [] ∧ slots st.env [(0, .slice g e (ss.map strD)), (6, .slice g6 e6' (lb Y)), (10, .slice 0 34 C), (11, .val (.int .i64 k)), (12, .val (.bool b)), (16, .val (.int .i64 i))] ∧ strsD (putAll M ((byts (mu k)).take i)) (st.env.get 5)) ?_ ?_ ?_
        · refine ⟨by simp [*], rfl, by simp [*], ⟨g5, e5', by simp [*, putAll], q5⟩⟩
        · clear en e0 e10 e11 e12 e13 f5 f6
          rintro i ⟨E, H, df⟩ hi ⟨en, edf, ⟨e0, fo, e10, e11, e12, ec, -⟩, ⟨gc, eec, fs, qc⟩⟩
          simp only at en edf e0 fo e10 e11 e12 ec fs
          subst edf
          have hb : b = true := by cases b <;> simp_all
          subst hb
          rw [if_pos rfl] at hi
          have hii : (i : Int) < ((mu k).length : Int) := by omega
          obtain ⟨s, hc⟩ : ∃ c, (mu k)[i]? = some c := ⟨_, List.getElem?_eq_getElem hi⟩
          have hL : ((mu k).map strD)[i]? = some (.val (.string s)) := by rw [List.getElem?_map, hc]; rfl
          have hge := get_of hL
          have hml : ((mu k).map strD).length = (mu k).length := by simp
          have hbc : (byts (mu k))[i]? = some s.data.toList := by rw [byts, List.getElem?_map, hc]; rfl
          have kT := Hold.mk (putAll_succ (M := M) hbc)
          obtain rfl : em = 9 := qm.resolve_left (fun q => by rw [q] at hi; simp at hi)
          have hw := wrapSucc i (by omega)
          have hlen : (putAll M ((byts (mu k)).take i)).length ≤ 100000 := by
            have := putAll_len ((byts (mu k)).take i) M
            rw [List.length_take, byts_len] at this
            omega
          have hput := fun H => putR_spec gc eec _ s.data.toList qc hlen H
          generalize putAll M ((byts (mu k)).take i) = M3 at *
          generalize (mu k).map strD = LM at *
          clear hbc hc kM kY
          repeat (first | with_reducible refine seq_k fun K hK => ?_ | (with_reducible refine region_k fun K hK => ?_; simp [*]) | (with_reducible refine region_draw_k mixedO (by decide +kernel) fun K hK => ?_; simp [*]) | with_reducible refine pwp_block ?_ | with_reducible refine pwp_skip ?_ | with_reducible refine pwp_ret ?_ | with_reducible refine pwp_exit ?_ | (with_reducible refine cond_t ?_ ?_; (focus (simp [*]; done))) | (with_reducible refine cond_f ?_ ?_; (focus (simp [*]; done))) | with_reducible refine then_n ?_ | with_reducible refine then_r ?_ | with_reducible refine then_e ?_ | with_reducible refine then_g ?_ | with_reducible refine inB_n ?_ | with_reducible refine inB_r ?_ | with_reducible refine inB_e ?_ | with_reducible refine inB_o rfl ?_ | with_reducible refine inB_g ?_ | with_reducible refine Leads.go (by assumption) ?_)
          refine PCalls.mono (hput _) ?_
          rintro _ H ⟨⟨gn, enn, rfl, qn⟩, rfl⟩
          clear hput
          repeat (first | with_reducible refine seq_k fun K hK => ?_ | (with_reducible refine region_k fun K hK => ?_; simp [*]) | (with_reducible refine region_draw_k mixedO (by decide +kernel) fun K hK => ?_; simp [*]) | with_reducible refine pwp_block ?_ | with_reducible refine pwp_skip ?_ | with_reducible refine pwp_ret ?_ | with_reducible refine pwp_exit ?_ | (with_reducible refine cond_t ?_ ?_; (focus (simp [*]; done))) | (with_reducible refine cond_f ?_ ?_; (focus (simp [*]; done))) | with_reducible refine then_n ?_ | with_reducible refine then_r ?_ | with_reducible refine then_e ?_ | with_reducible refine then_g ?_ | with_reducible refine inB_n ?_ | with_reducible refine inB_r ?_ | with_reducible refine inB_e ?_ | with_reducible refine inB_o rfl ?_ | with_reducible refine inB_g ?_ | with_reducible refine Leads.go (by assumption) ?_)
          refine ⟨by simp [*], rfl, by simp [*], ?_⟩
          rw [kT.out]
          exact ⟨gn, enn, by simp [*], qn⟩
        · clear en e0 e10 e11 e12 e13 f5 f6
          rintro ⟨E, H, df⟩ ⟨en, edf, ⟨e0, fo, e10, e11, e12, ec, -⟩, fS⟩
          simp only at en edf e0 fo e10 e11 e12 ec fS
          subst edf
          have fS2 : strsD M2 (E.get 5) := by
            rw [kM.out]
            cases b with
            | true => rw [if_pos rfl] at fS ⊢; rwa [List.take_of_length_le (by rw [byts_len]; omega)] at fS
            | false => rw [if_neg (by decide)] at fS ⊢; simpa [putAll] using fS
          have hend : b = true → ¬ ((if b = true then (mu k).length else 0 : Nat) : Int) < ((mu k).length : Int) := fun q => by rw [if_pos q]; omega
          obtain ⟨nn, hnn⟩ : ∃ nn, nn = (if b = true then (mu k).length else 0) := ⟨_, rfl⟩
          rw [← hnn] at ec hend
          have hml : ((mu k).map strD).length = (mu k).length := by simp
          generalize (mu k).map strD = LM at *
          clear fS hnn
          have next : ∀ (E : Env) (H : Heap), E.n = 136 → E.get 0 = .slice g e (ss.map strD) → E.get 6 = .slice g6 e6' (lb Y) → E.get 10 = .slice 0 34 C → E.get 11 = .val (.int .i64 k) → E.get 12 = .val (.bool b) → strsD M2 (E.get 5) → True := fun _ _ _ _ _ _ _ _ _ => trivial
          clear next
          obtain ⟨gz, ez, fz5, qz⟩ := fS2
          cases b with
          | true =>
            replace hend := hend rfl
            repeat (first | with_reducible refine seq_k fun K hK => ?_ | (with_reducible refine region_k fun K hK => ?_; simp [*]) | (with_reducible refine region_draw_k mixedO (by decide +kernel) fun K hK => ?_; simp [*]) | with_reducible refine pwp_block ?_ | with_reducible refine pwp_skip ?_ | with_reducible refine pwp_ret ?_ | with_reducible refine pwp_exit ?_ | (with_reducible refine cond_t ?_ ?_; (focus (simp [*]; done))) | (with_reducible refine cond_f ?_ ?_; (focus (simp [*]; done))) | with_reducible refine then_n ?_ | with_reducible refine then_r ?_ | with_reducible refine then_e ?_ | with_reducible refine then_g ?_ | with_reducible refine inB_n ?_ | with_reducible refine inB_r ?_ | with_reducible refine inB_e ?_ | with_reducible refine inB_o rfl ?_ | with_reducible refine inB_g ?_ | with_reducible refine Leads.go (by assumption) ?_)
            clear hend
            refine pwp_for (ma k).length (fun i st => st.env.n = 136 ∧ st.df = [] ∧ slots st.env [(0, .slice g e (ss.map strD)), (5, .slice gz ez (lb M2)), (10, .slice 0 34 C), (11, .val (.int .i64 k)), (12, .val (.bool true)), (17, .val (.int .i64 i))] ∧ strsD (putAll Y ((byts (ma k)).take i)) (st.env.get 6)) ?_ ?_ ?_
            · refine ⟨by simp [*], rfl, by simp [*], ⟨g6, e6', by simp [*, putAll], q6⟩⟩
            · clear en e0 e10 e11 e12 ec fo fz5
              rintro i ⟨E, H, df⟩ hi ⟨en, edf, ⟨e0, fo, e10, e11, e12, ec, -⟩, ⟨gc, eec, fs, qc⟩⟩
              simp only at en edf e0 fo e10 e11 e12 ec fs
              subst edf
              have hii : (i : Int) < ((ma k).length : Int) := by omega
              obtain ⟨s, hc⟩ : ∃ c, (ma k)[i]? = some c := ⟨_, List.getElem?_eq_getElem hi⟩
              have hL : ((ma k).map strD)[i]? = some (.val (.string s)) := by rw [List.getElem?_map, hc]; rfl
              have hge := get_of hL
              have hml : ((ma k).map strD).length = (ma k).length := by simp
              have hbc : (byts (ma k))[i]? = some s.data.toList := by rw [byts, List.getElem?_map, hc]; rfl
              have kT := Hold.mk (putAll_succ (M := Y) hbc)
              obtain rfl : ey = 9 := qy.resolve_left (fun q => by rw [q] at hi; simp at hi)
              have hw := wrapSucc i (by omega)
              have hlen : (putAll Y ((byts (ma k)).take i)).length ≤ 100000 := by
                have := putAll_len ((byts (ma k)).take i) Y
                rw [List.length_take, byts_len] at this
                omega
              have hput := fun H => putR_spec gc eec _ s.data.toList qc hlen H
              generalize putAll Y ((byts (ma k)).take i) = M3 at *
              generalize (ma k).map strD = LM2 at *
              clear hbc hc kM kY
              repeat (first | with_reducible refine seq_k fun K hK => ?_ | (with_reducible refine region_k fun K hK => ?_; simp [*]) | (with_reducible refine region_draw_k mixedO (by decide +kernel) fun K hK => ?_; simp [*]) | with_reducible refine pwp_block ?_ | with_reducible refine pwp_skip ?_ | with_reducible refine pwp_ret ?_ | with_reducible refine pwp_exit ?_ | (with_reducible refine cond_t ?_ ?_; (focus (simp [*]; done))) | (with_reducible refine cond_f ?_ ?_; (focus (simp [*]; done))) | with_reducible refine then_n ?_ | with_reducible refine then_r ?_ | with_reducible refine then_e ?_ | with_reducible refine then_g ?_ | with_reducible refine inB_n ?_ | with_reducible refine inB_r ?_ | with_reducible refine inB_e ?_ | with_reducible refine inB_o rfl ?_ | with_reducible refine inB_g ?_ | with_reducible refine Leads.go (by assumption) ?_)
              refine PCalls.mono (hput _) ?_
              rintro _ H ⟨⟨gn, enn, rfl, qn⟩, rfl⟩
              clear hput
              repeat (first | with_reducible refine seq_k fun K hK => ?_ | (with_reducible refine region_k fun K hK => ?_; simp [*]) | (with_reducible refine region_draw_k mixedO (by decide +kernel) fun K hK => ?_; simp [*]) | with_reducible refine pwp_block ?_ | with_reducible refine pwp_skip ?_ | with_reducible refine pwp_ret ?_ | with_reducible refine pwp_exit ?_ | (with_reducible refine cond_t ?_ ?_; (focus (simp [*]; done))) | (with_reducible refine cond_f ?_ ?_; (focus (simp [*]; done))) | with_reducible refine then_n ?_ | with_reducible refine then_r ?_ | with_reducible refine then_e ?_ | with_reducible refine then_g ?_ | with_reducible refine inB_n ?_ | with_reducible refine inB_r ?_ | with_reducible refine inB_e ?_ | with_reducible refine inB_o rfl ?_ | with_reducible refine inB_g ?_ | with_reducible refine Leads.go (by assumption) ?_)
              refine ⟨by simp [*], rfl, by simp [*], ?_⟩
              rw [kT.out]
              exact ⟨gn, enn, by simp [*], qn⟩
            · clear en e0 e10 e11 e12 ec fo fz5
              rintro ⟨E, H, df⟩ ⟨en, edf, ⟨e0, fo, e10, e11, e12, ec, -⟩, fS⟩
              simp only at en edf e0 fo e10 e11 e12 ec fS
              subst edf
              have fS2 : strsD Y2 (E.get 6) := by
                rw [kY.out]
                rw [if_pos rfl]; rwa [List.take_of_length_le (by rw [byts_len]; omega)] at fS
              have hend : ¬ (((ma k).length : Nat) : Int) < ((ma k).length : Int) := by omega
              obtain ⟨nn, hnn⟩ : ∃ nn, nn = (ma k).length := ⟨_, rfl⟩
              rw [← hnn] at ec
              have hend : ¬ ((nn : Nat) : Int) < ((ma k).length : Int) := by omega
              clear fS hnn
              obtain ⟨gw, ew, fw6, qw⟩ := fS2
              have hml2 : ((ma k).map strD).length = (ma k).length := by simp
              generalize (ma k).map strD = LM2 at *
              repeat (first | with_reducible refine seq_k fun K hK => ?_ | (with_reducible refine region_k fun K hK => ?_; simp [*]) | (with_reducible refine region_draw_k mixedO (by decide +kernel) fun K hK => ?_; simp [*]) | with_reducible refine pwp_block ?_ | with_reducible refine pwp_skip ?_ | with_reducible refine pwp_ret ?_ | with_reducible refine pwp_exit ?_ | (with_reducible refine cond_t ?_ ?_; (focus (simp [*]; done))) | (with_reducible refine cond_f ?_ ?_; (focus (simp [*]; done))) | with_reducible refine then_n ?_ | with_reducible refine then_r ?_ | with_reducible refine then_e ?_ | with_reducible refine then_g ?_ | with_reducible refine inB_n ?_ | with_reducible refine inB_r ?_ | with_reducible refine inB_e ?_ | with_reducible refine inB_o rfl ?_ | with_reducible refine inB_g ?_ | with_reducible refine Leads.go (by assumption) ?_)
              refine ⟨by simp [*], rfl, by simp [*], ⟨gz, ez, by simp [*], qz⟩, ⟨gw, ew, by simp [*], qw⟩⟩
          | false =>
            repeat (first | with_reducible refine seq_k fun K hK => ?_ | (with_reducible refine region_k fun K hK => ?_; simp [*]) | (with_reducible refine region_draw_k mixedO (by decide +kernel) fun K hK => ?_; simp [*]) | with_reducible refine pwp_block ?_ | with_reducible refine pwp_skip ?_ | with_reducible refine pwp_ret ?_ | with_reducible refine pwp_exit ?_ | (with_reducible refine cond_t ?_ ?_; (focus (simp [*]; done))) | (with_reducible refine cond_f ?_ ?_; (focus (simp [*]; done))) | with_reducible refine then_n ?_ | with_reducible refine then_r ?_ | with_reducible refine then_e ?_ | with_reducible refine then_g ?_ | with_reducible refine inB_n ?_ | with_reducible refine inB_r ?_ | with_reducible refine inB_e ?_ | with_reducible refine inB_o rfl ?_ | with_reducible refine inB_g ?_ | with_reducible refine Leads.go (by assumption) ?_)
            clear hend
            refine pwp_for 0 (fun i st => st.env.n = 136 ∧ st.df = [] ∧ slots st.env [(0, .slice g e (ss.map strD)), (5, .slice gz ez (lb M2)), (10, .slice 0 34 C), (11, .val (.int .i64 k)), (12, .val (.bool false)), (17, .val (.int .i64 i))] ∧ strsD (putAll Y ((byts (ma k)).take i)) (st.env.get 6)) ?_ ?_ ?_
            · refine ⟨by simp [*], rfl, by simp [*], ⟨g6, e6', by simp [*, putAll], q6⟩⟩
            · clear en e0 e10 e11 e12 ec fo fz5
              rintro i ⟨E, H, df⟩ hi ⟨en, edf, ⟨e0, fo, e10, e11, e12, ec, -⟩, ⟨gc, eec, fs, qc⟩⟩
              simp only at en edf e0 fo e10 e11 e12 ec fs
              subst edf
              exact absurd hi (Nat.not_lt_zero _)
            · clear en e0 e10 e11 e12 ec fo fz5
              rintro ⟨E, H, df⟩ ⟨en, edf, ⟨e0, fo, e10, e11, e12, ec, -⟩, fS⟩
              simp only at en edf e0 fo e10 e11 e12 ec fS
              subst edf
              have fS2 : strsD Y2 (E.get 6) := by
                rw [kY.out]
                rw [if_neg (by decide)]; simpa [putAll] using fS
              obtain ⟨nn, hnn⟩ : ∃ nn, nn = 0 := ⟨_, rfl⟩
              clear fS hnn
              obtain ⟨gw, ew, fw6, qw⟩ := fS2
              have hml2 : ((ma k).map strD).length = (ma k).length := by simp
              generalize (ma k).map strD = LM2 at *
              repeat (first | with_reducible refine seq_k fun K hK => ?_ | (with_reducible refine region_k fun K hK => ?_; simp [*]) | (with_reducible refine region_draw_k mixedO (by decide +kernel) fun K hK => ?_; simp [*]) | with_reducible refine pwp_block ?_ | with_reducible refine pwp_skip ?_ | with_reducible refine pwp_ret ?_ | with_reducible refine pwp_exit ?_ | (with_reducible refine cond_t ?_ ?_; (focus (simp [*]; done))) | (with_reducible refine cond_f ?_ ?_; (focus (simp [*]; done))) | with_reducible refine then_n ?_ | with_reducible refine then_r ?_ | with_reducible refine then_e ?_ | with_reducible refine then_g ?_ | with_reducible refine inB_n ?_ | with_reducible refine inB_r ?_ | with_reducible refine inB_e ?_ | with_reducible refine inB_o rfl ?_ | with_reducible refine inB_g ?_ | with_reducible refine Leads.go (by assumption) ?_)
              refine ⟨by simp [*], rfl, by simp [*], ⟨gz, ez, by simp [*], qz⟩, ⟨gw, ew, by simp [*], qw⟩⟩
    · clear en e0 e5 e6 e7
      rintro ⟨E, H, df⟩ ⟨en, edf, ⟨e0, e10, e11, -⟩, ⟨g5, e5', f5, q5⟩, ⟨g6, e6', f6, q6⟩⟩
      simp only at en edf e0 e10 e11 f5 f6
      subst edf
      have lM := allM_len (ss.map fcls) 10
      have lY := allY_len (ss.map fcls) 10
      have kR : Hold (∀ d1 d2, strsD (allM (ss.map fcls) 10) d1 → strsD (rest (allY (ss.map fcls) 10) (allM (ss.map fcls) 10)) d2 → AllRR ss (.tup [d1, d2, .val (.int .i64 0)])) := ⟨fun d1 d2 h1 h2 => by
        rw [AllRR, if_pos kok.out]; exact ⟨d1, d2, rfl, h1, h2⟩⟩
      generalize allM (ss.map fcls) 10 = M at *
      generalize allY (ss.map fcls) 10 = Y at *
      have hCl : ((List.range 10).map clD).length = 10 := by simp
      generalize (List.range 10).map clD = C at *
      repeat (first | with_reducible refine seq_k fun K hK => ?_ | (with_reducible refine region_k fun K hK => ?_; simp [*]) | (with_reducible refine region_draw_k mixedO (by decide +kernel) fun K hK => ?_; simp [*]) | with_reducible refine pwp_block ?_ | with_reducible refine pwp_skip ?_ | with_reducible refine pwp_ret ?_ | with_reducible refine pwp_exit ?_ | (with_reducible refine cond_t ?_ ?_; (focus (simp [*]; done))) | (with_reducible refine cond_f ?_ ?_; (focus (simp [*]; done))) | with_reducible refine then_n ?_ | with_reducible refine then_r ?_ | with_reducible refine then_e ?_ | with_reducible refine then_g ?_ | with_reducible refine inB_n ?_ | with_reducible refine inB_r ?_ | with_reducible refine inB_e ?_ | with_reducible refine inB_o rfl ?_ | with_reducible refine inB_g ?_ | with_reducible refine Leads.go (by assumption) ?_)
      refine pwp_for Y.length (fun k st => st.env.n = 136 ∧ st.df = [] ∧ slots st.env [(5, .slice g5 e5' (lb M)), (6, .slice g6 e6' (lb Y)), (19, .val (.int .i64 k))] ∧ Grow st.H (st.env.get 18) 9 (lb (rest (Y.take k) M))) ?_ ?_ ?_
      · refine ⟨by simp [*], rfl, by simp [*], .inl ⟨by simp [rest], by simp [*]⟩⟩
      · clear en e0 e10 e11 f5 f6
        rintro k ⟨E, H, df⟩ h ⟨en, edf, ⟨f5, f6, e19, -⟩, eA⟩
        simp only at en edf f5 f6 e19 eA
        subst edf
        obtain ⟨acc, e18⟩ : ∃ y, E.get 18 = y := ⟨_, rfl⟩
        rw [e18] at eA
        have hki : (k : Int) < (Y.length : Int) := by omega
        obtain ⟨c, hc⟩ : ∃ c, Y[k]? = some c := ⟨_, List.getElem?_eq_getElem h⟩
        have hL := lb_get hc
        have hge := get_of hL
        have hLl : (lb Y).length = Y.length := lb_len Y
        obtain rfl : e6' = 9 := q6.resolve_left (fun q => by subst q; simp at h)
        have hw := wrapSucc k (by omega)
        have hT : rest (Y.take (k + 1)) M = rest (Y.take k) M ++ (if c ∈ M then [] else [c]) := by
          rw [List.take_add_one, hc, rest, rest, List.filter_append]
          by_cases h1 : c ∈ M <;> simp [h1]
        have hrl : (rest (Y.take k) M).length ≤ 1000 := by
          have h4 : (Y.take k).length ≤ k := by rw [List.length_take]; omega
          exact Nat.le_trans (List.length_filter_le _ _) (by omega)
        have hh := hasR_spec g5 e5' M c q5 (by omega)
        have kT := Hold.mk hT
        have kA := Hold.mk eA
        generalize lb Y = LY at *
        clear hT hc eA kR
        repeat (first | with_reducible refine seq_k fun K hK => ?_ | (with_reducible refine region_k fun K hK => ?_; simp [*]) | (with_reducible refine region_draw_k mixedO (by decide +kernel) fun K hK => ?_; simp [*]) | with_reducible refine pwp_block ?_ | with_reducible refine pwp_skip ?_ | with_reducible refine pwp_ret ?_ | with_reducible refine pwp_exit ?_ | (with_reducible refine cond_t ?_ ?_; (focus (simp [*]; done))) | (with_reducible refine cond_f ?_ ?_; (focus (simp [*]; done))) | with_reducible refine then_n ?_ | with_reducible refine then_r ?_ | with_reducible refine then_e ?_ | with_reducible refine then_g ?_ | with_reducible refine inB_n ?_ | with_reducible refine inB_r ?_ | with_reducible refine inB_e ?_ | with_reducible refine inB_o rfl ?_ | with_reducible refine inB_g ?_ | with_reducible refine Leads.go (by assumption) ?_)
        refine PCalls.mono (hh _) ?_
        rintro _ H ⟨rfl, rfl⟩
        clear hh
        by_cases h1 : c ∈ M
        · have kT2 := Hold.mk kT.out
          replace kT2 : Hold (rest (Y.take (k + 1)) M = rest (Y.take k) M) := ⟨by rw [kT.out, if_pos h1, List.append_nil]⟩
          clear kT
          rw [show decide (c ∈ M) = true by simpa using h1]
          clear h1
          try simp [*]
          repeat (first | with_reducible refine seq_k fun K hK => ?_ | (with_reducible refine region_k fun K hK => ?_; simp [*]) | (with_reducible refine region_draw_k mixedO (by decide +kernel) fun K hK => ?_; simp [*]) | with_reducible refine pwp_block ?_ | with_reducible refine pwp_skip ?_ | with_reducible refine pwp_ret ?_ | with_reducible refine pwp_exit ?_ | (with_reducible refine cond_t ?_ ?_; (focus (simp [*]; done))) | (with_reducible refine cond_f ?_ ?_; (focus (simp [*]; done))) | with_reducible refine then_n ?_ | with_reducible refine then_r ?_ | with_reducible refine then_e ?_ | with_reducible refine then_g ?_ | with_reducible refine inB_n ?_ | with_reducible refine inB_r ?_ | with_reducible refine inB_e ?_ | with_reducible refine inB_o rfl ?_ | with_reducible refine inB_g ?_ | with_reducible refine Leads.go (by assumption) ?_)
          refine ⟨by simp [*], rfl, by simp [*], ?_⟩
          rw [kT2.out]
          simp [*]
          exact kA.out
        · have kT2 : Hold (rest (Y.take (k + 1)) M = rest (Y.take k) M ++ [c]) := ⟨by rw [kT.out, if_neg h1]⟩
          clear kT
          rw [show decide (c ∈ M) = false by simpa using h1]
          clear h1
          obtain ⟨r, H1, k1, k2, -⟩ := grow_append [.val (.string ⟨c.toArray⟩)] (grow_keep (H' := H.new (.row 9 [.val (.string ⟨c.toArray⟩)])) kA.out (fun j hj _ _ _ _ => Heap.new_ne _ _ (by omega)) (by simp)) (by rw [lb_len]; simp; omega)
          have k3 : Hold (Grow H1 r 9 (lb (rest (Y.take (k + 1)) M))) := ⟨by
            rw [kT2.out, lb, List.map_append]; exact k2⟩
          clear k2
          try simp [*]
          repeat (first | with_reducible refine seq_k fun K hK => ?_ | (with_reducible refine region_k fun K hK => ?_; simp [*]) | (with_reducible refine region_draw_k mixedO (by decide +kernel) fun K hK => ?_; simp [*]) | with_reducible refine pwp_block ?_ | with_reducible refine pwp_skip ?_ | with_reducible refine pwp_ret ?_ | with_reducible refine pwp_exit ?_ | (with_reducible refine cond_t ?_ ?_; (focus (simp [*]; done))) | (with_reducible refine cond_f ?_ ?_; (focus (simp [*]; done))) | with_reducible refine then_n ?_ | with_reducible refine then_r ?_ | with_reducible refine then_e ?_ | with_reducible refine then_g ?_ | with_reducible refine inB_n ?_ | with_reducible refine inB_r ?_ | with_reducible refine inB_e ?_ | with_reducible refine inB_o rfl ?_ | with_reducible refine inB_g ?_ | with_reducible refine Leads.go (by assumption) ?_)
          refine ⟨by simp [*], rfl, by simp [*], ?_⟩
          simp [*]
          exact k3.out
      · clear en e0 e10 e11 f5 f6
        rintro ⟨E, H, df⟩ ⟨en, edf, ⟨f5, f6, e19, -⟩, eA⟩
        simp only at en edf f5 f6 e19 eA
        subst edf
        rw [List.take_length] at eA
        obtain ⟨gz, ez, hz, qz⟩ := fz_growN (P := Try.prog) 17 eA
        obtain ⟨acc, e18⟩ : ∃ y, E.get 18 = y := ⟨_, rfl⟩
        rw [e18] at hz
        have hz2 := fz_three (v := .int .i64 0) (show fz Try.prog (18 + 1) H (.slice g5 e5' (lb M)) = some (.slice g5 e5' (lb M)) by rw [fz, fz_lb 17]) hz
        have kz := Hold.mk hz2
        have kfin := Hold.mk (kR.out _ _ ⟨g5, e5', rfl, q5⟩ ⟨gz, ez, rfl, qz⟩)
        clear hz hz2 kR eA
        have hLl : (lb Y).length = Y.length := lb_len Y
        repeat (first | with_reducible refine seq_k fun K hK => ?_ | (with_reducible refine region_k fun K hK => ?_; simp [*]) | (with_reducible refine region_draw_k mixedO (by decide +kernel) fun K hK => ?_; simp [*]) | with_reducible refine pwp_block ?_ | with_reducible refine pwp_skip ?_ | with_reducible refine pwp_ret ?_ | with_reducible refine pwp_exit ?_ | (with_reducible refine cond_t ?_ ?_; (focus (simp [*]; done))) | (with_reducible refine cond_f ?_ ?_; (focus (simp [*]; done))) | with_reducible refine then_n ?_ | with_reducible refine then_r ?_ | with_reducible refine then_e ?_ | with_reducible refine then_g ?_ | with_reducible refine inB_n ?_ | with_reducible refine inB_r ?_ | with_reducible refine inB_e ?_ | with_reducible refine inB_o rfl ?_ | with_reducible refine inB_g ?_ | with_reducible refine Leads.go (by assumption) ?_)
        simp [*]
        exact ⟨_, kz.out, kfin.out⟩
end Go.Pv
