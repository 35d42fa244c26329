/- A part of the proof: functions of the program, walked, or what operations come to. -/
import Derived.Test.YtmaajijhfpdefaaPvS14
import Derived.Test.YtmaajijhfpdefaaPvOrd
namespace Go.Pv
open Go.Proofs
/-! ### The reference: Lower -/
attribute [local simp] Try.underlying47 Try.underlying5 Try.underlying9 Heap.new_get Heap.put_get eBuildSlice byD
theorem grow_appE {e b : Nat} {H : Heap} {m : D} {A : List D} (N : List D) (hm : Grow H m e A) (hb : (A.length + N.length) * b ≤ 140737488355328) : ∃ r H1, appK e b m (some N) H = some (r, H1) ∧ Grow H1 r e (A ++ N) ∧ H.nx ≤ H1.nx ∧
    (∀ j, j < H.nx → (∀ i a, m = .row i e 0 a → j ≠ i) → H1.get j = H.get j) := by
  by_cases hN : N = []
  · subst hN
    refine ⟨m, H, ?_, by rw [List.append_nil]; exact hm, Nat.le_refl _, fun _ _ _ => rfl⟩
    rcases hm with ⟨_, rfl⟩ | ⟨i, _, rfl, _⟩ <;> rfl
  · rcases hm with ⟨rfl, rfl⟩ | ⟨i, hi, rfl, hH, hA⟩
    · refine ⟨.row H.nx e 0 N.length, H.new (.row e N), ?_, ?_, by simp, fun j hj _ => Heap.new_ne _ _ (by omega)⟩
      · have hb' : N.length * b ≤ 140737488355328 := by simpa using hb
        simp [appK, isSliceD, hN, onto, hb']
      · exact .inr ⟨H.nx, by simp, by simp, by simp, by simpa using hN⟩
    · refine ⟨.row H.nx e 0 (A.length + N.length), (H.put i none).new (.row e (A ++ N)), ?_, ?_, by simp, fun j hj hne => ?_⟩
      · simp [appK, isSliceD, hN, onto, hH, hb]
      · exact .inr ⟨H.nx, by simp, by simp, Heap.new_same (H.put i none) _, by simp [hN]⟩
      · rw [Heap.new_ne _ _ (by simp; omega), Heap.put_ne _ _ (hne i _ rfl)]
@[simp ↓] theorem append47 (s x : D) (H : Heap) : eAppend Try.prog 47 47 s x H = appK 5 1 s (news Try.prog H 5 47 x) H := eAppend_of Try.underlying47 (show Try.prog.info? 5 = some Try.t5 from rfl) (show Try.t5.zero = some _ from rfl) (by kernel_rfl) (by decide) (by decide) (by kernel_rfl) s x H
@[simp] theorem zd5 : (zeroD Try.prog 5).isSome = true := by kernel_rfl
@[simp] theorem res25 : Try.f25.results.toList = [.tmp 2] := rfl
theorem byteAt_of {l : List UInt8} {k : Nat} {c : UInt8} (h : l[k]? = some c) : byteAt l k = (c.toNat : Int) := by simp [byteAt, List.getD, h]
set_option maxHeartbeats 4000000 in
set_option maxRecDepth 100000 in
theorem LowerR_local (s : ByteArray) (hs : s.size ≤ 140737488351232) : PCalls Try.prog 25 [.val (.string s)] (noHeap noG) fun d _ => d = .val (.string (lowS s)) := by
  refine PCalls.of_pwp Try.call25 Try.func25 rfl (by simp [Try.ntmps25]) ?_
  rw [Try.ntmps25]
  obtain ⟨l, hl⟩ : ∃ l, l = s.data.toList := ⟨_, rfl⟩
  have hsl : s.data.size = l.length := by rw [hl, Array.length_toList]
  have hl2 : l.length ≤ 140737488351232 := by rw [hl, Array.length_toList]; exact hs
  repeat (first | with_reducible refine seq_k fun K hK => ?_ | (with_reducible refine region_k fun K hK => ?_; simp [*]) | (with_reducible refine region_draw_k mixedO (by decide +kernel) fun K hK => ?_; simp [*]) | with_reducible refine pwp_block ?_ | with_reducible refine pwp_skip ?_ | with_reducible refine pwp_ret ?_ | with_reducible refine pwp_exit ?_ | (with_reducible refine cond_t ?_ ?_; (focus (simp [*]; done))) | (with_reducible refine cond_f ?_ ?_; (focus (simp [*]; done))) | with_reducible refine then_n ?_ | with_reducible refine then_r ?_ | with_reducible refine then_e ?_ | with_reducible refine then_g ?_ | with_reducible refine inB_n ?_ | with_reducible refine inB_r ?_ | with_reducible refine inB_e ?_ | with_reducible refine inB_o rfl ?_ | with_reducible refine inB_g ?_ | with_reducible refine Leads.go (by assumption) ?_)
  refine pwp_for l.length (fun k st => st.env.n = 29 ∧ st.df = [] ∧ slots st.env [(0, .val (.string s)), (4, .val (.int .i64 k))] ∧ Grow st.H (st.env.get 3) 5 (((l.take k).map lowB).map byD)) ?_ ?_ ?_
  · refine ⟨by simp, rfl, by simp, .inl ⟨by simp, by simp⟩⟩
  · rintro k ⟨E, H, df⟩ h ⟨en, edf, ⟨e0, e4, -⟩, eA⟩
    simp only at en edf e0 e4 eA
    subst edf
    obtain ⟨acc, e3⟩ : ∃ y, E.get 3 = y := ⟨_, rfl⟩
    rw [e3] at eA
    have hki : (k : Int) < (l.length : Int) := by omega
    obtain ⟨c, hc⟩ : ∃ c, l[k]? = some c := ⟨_, List.getElem?_eq_getElem h⟩
    have hbt : byteAt s.data.toList k = (c.toNat : Int) := by rw [← hl]; exact byteAt_of hc
    have hw := wrapSucc k (by omega)
    have hT : ((l.take (k + 1)).map lowB).map byD = ((l.take k).map lowB).map byD ++ [byD (lowB c)] := by rw [List.take_add_one, hc]; simp
    have kT := Hold.mk hT
    have kA := Hold.mk eA
    have kl := Hold.mk hl
    clear hT eA hc hl
    have fin : ∀ (H' : Heap), Grow H' acc 5 (((l.take k).map lowB).map byD) → ∃ r H1, appK 5 1 acc (some [byD (lowB c)]) H' = some (r, H1) ∧ Grow H1 r 5 (((l.take (k + 1)).map lowB).map byD) := fun H' hG => by
      obtain ⟨r, H1, q1, q2, -⟩ := grow_appE (b := 1) [byD (lowB c)] hG (by simp; omega)
      exact ⟨r, H1, q1, by rw [kT.out]; exact q2⟩
    have kfin := Hold.mk fin
    clear fin
    have up := fun x => kfin.out (H.new (.row 5 [x])) (grow_keep kA.out (fun j hj _ _ _ _ => Heap.new_ne _ _ (by omega)) (by simp))
    by_cases h1 : 65 ≤ (c.toNat : Int)
    · by_cases h2 : (c.toNat : Int) ≤ 90
      · have hlow := lowB_up c h1 h2
        obtain ⟨r, H1, q1, q2⟩ := up (byD (lowB c))
        simp only [byD] at q1
        have kq := Hold.mk q2
        clear up q2 kfin
        repeat (first | with_reducible refine seq_k fun K hK => ?_ | (with_reducible refine region_k fun K hK => ?_; simp [*]) | (with_reducible refine region_draw_k mixedO (by decide +kernel) fun K hK => ?_; simp [*]) | with_reducible refine pwp_block ?_ | with_reducible refine pwp_skip ?_ | with_reducible refine pwp_ret ?_ | with_reducible refine pwp_exit ?_ | (with_reducible refine cond_t ?_ ?_; (focus (simp [*]; done))) | (with_reducible refine cond_f ?_ ?_; (focus (simp [*]; done))) | with_reducible refine then_n ?_ | with_reducible refine then_r ?_ | with_reducible refine then_e ?_ | with_reducible refine then_g ?_ | with_reducible refine inB_n ?_ | with_reducible refine inB_r ?_ | with_reducible refine inB_e ?_ | with_reducible refine inB_o rfl ?_ | with_reducible refine inB_g ?_ | with_reducible refine Leads.go (by assumption) ?_)
        refine ⟨by simp [*], rfl, by simp [*], ?_⟩
        simp [*]
        simpa using kq.out
      · have hlow := lowB_keep c (fun q => h2 q.2)
        obtain ⟨r, H1, q1, q2⟩ := up (byD (lowB c))
        rw [hlow] at q1
        simp only [byD] at q1
        have kq := Hold.mk q2
        clear up q2 kfin
        repeat (first | with_reducible refine seq_k fun K hK => ?_ | (with_reducible refine region_k fun K hK => ?_; simp [*]) | (with_reducible refine region_draw_k mixedO (by decide +kernel) fun K hK => ?_; simp [*]) | with_reducible refine pwp_block ?_ | with_reducible refine pwp_skip ?_ | with_reducible refine pwp_ret ?_ | with_reducible refine pwp_exit ?_ | (with_reducible refine cond_t ?_ ?_; (focus (simp [*]; done))) | (with_reducible refine cond_f ?_ ?_; (focus (simp [*]; done))) | with_reducible refine then_n ?_ | with_reducible refine then_r ?_ | with_reducible refine then_e ?_ | with_reducible refine then_g ?_ | with_reducible refine inB_n ?_ | with_reducible refine inB_r ?_ | with_reducible refine inB_e ?_ | with_reducible refine inB_o rfl ?_ | with_reducible refine inB_g ?_ | with_reducible refine Leads.go (by assumption) ?_)
        refine ⟨by simp [*], rfl, by simp [*], ?_⟩
        simp [*]
        simpa using kq.out
    · have hlow := lowB_keep c (fun q => h1 q.1)
      obtain ⟨r, H1, q1, q2⟩ := up (byD (lowB c))
      rw [hlow] at q1
      simp only [byD] at q1
      have kq := Hold.mk q2
      clear up q2 kfin
      repeat (first | with_reducible refine seq_k fun K hK => ?_ | (with_reducible refine region_k fun K hK => ?_; simp [*]) | (with_reducible refine region_draw_k mixedO (by decide +kernel) fun K hK => ?_; simp [*]) | with_reducible refine pwp_block ?_ | with_reducible refine pwp_skip ?_ | with_reducible refine pwp_ret ?_ | with_reducible refine pwp_exit ?_ | (with_reducible refine cond_t ?_ ?_; (focus (simp [*]; done))) | (with_reducible refine cond_f ?_ ?_; (focus (simp [*]; done))) | with_reducible refine then_n ?_ | with_reducible refine then_r ?_ | with_reducible refine then_e ?_ | with_reducible refine then_g ?_ | with_reducible refine inB_n ?_ | with_reducible refine inB_r ?_ | with_reducible refine inB_e ?_ | with_reducible refine inB_o rfl ?_ | with_reducible refine inB_g ?_ | with_reducible refine Leads.go (by assumption) ?_)
      refine ⟨by simp [*], rfl, by simp [*], ?_⟩
      simp [*]
      simpa using kq.out
  · rintro ⟨E, H, df⟩ ⟨en, edf, ⟨e0, e4, -⟩, eA⟩
    simp only at en edf e0 e4 eA
    subst edf
    rw [List.take_length] at eA
    have hlow : lowS s = ⟨(l.map lowB).toArray⟩ := by rw [lowS, hl]
    have kl := Hold.mk hl
    clear hl
    rcases eA with ⟨h0, e3⟩ | ⟨i, hi, e3, hH, hne⟩
    · have : l = [] := by simpa using h0
      subst this
      have hts : eToStr [] = some (.val (.string ⟨#[]⟩)) := rfl
      repeat (first | with_reducible refine seq_k fun K hK => ?_ | (with_reducible refine region_k fun K hK => ?_; simp [*]) | (with_reducible refine region_draw_k mixedO (by decide +kernel) fun K hK => ?_; simp [*]) | with_reducible refine pwp_block ?_ | with_reducible refine pwp_skip ?_ | with_reducible refine pwp_ret ?_ | with_reducible refine pwp_exit ?_ | (with_reducible refine cond_t ?_ ?_; (focus (simp [*]; done))) | (with_reducible refine cond_f ?_ ?_; (focus (simp [*]; done))) | with_reducible refine then_n ?_ | with_reducible refine then_r ?_ | with_reducible refine then_e ?_ | with_reducible refine then_g ?_ | with_reducible refine inB_n ?_ | with_reducible refine inB_r ?_ | with_reducible refine inB_e ?_ | with_reducible refine inB_o rfl ?_ | with_reducible refine inB_g ?_ | with_reducible refine Leads.go (by assumption) ?_)
      simp [*]
    · have hlen : (List.map byD (List.map lowB l)).length = l.length := by simp
      rw [hlen] at e3
      have htk : List.take l.length (List.map byD (List.map lowB l)) = List.map byD (List.map lowB l) := List.take_of_length_le (by simp)
      generalize hLB : l.map lowB = LB at *
      repeat (first | with_reducible refine seq_k fun K hK => ?_ | (with_reducible refine region_k fun K hK => ?_; simp [*]) | (with_reducible refine region_draw_k mixedO (by decide +kernel) fun K hK => ?_; simp [*]) | with_reducible refine pwp_block ?_ | with_reducible refine pwp_skip ?_ | with_reducible refine pwp_ret ?_ | with_reducible refine pwp_exit ?_ | (with_reducible refine cond_t ?_ ?_; (focus (simp [*]; done))) | (with_reducible refine cond_f ?_ ?_; (focus (simp [*]; done))) | with_reducible refine then_n ?_ | with_reducible refine then_r ?_ | with_reducible refine then_e ?_ | with_reducible refine then_g ?_ | with_reducible refine inB_n ?_ | with_reducible refine inB_r ?_ | with_reducible refine inB_e ?_ | with_reducible refine inB_o rfl ?_ | with_reducible refine inB_g ?_ | with_reducible refine Leads.go (by assumption) ?_)
      simp [*]
theorem LowerR_spec (s : ByteArray) (H : Heap) (hs : s.size ≤ 140737488351232) : PCalls Try.prog 25 [.val (.string s)] H fun d H' => d = .val (.string (lowS s)) ∧ H' = H :=
  PCalls.liftG (LowerR_local s hs) (fun d hd => by simp only [List.mem_cons, List.mem_nil_iff, or_false] at hd; subst hd; exact .val _) (.val _) H
end Go.Pv
