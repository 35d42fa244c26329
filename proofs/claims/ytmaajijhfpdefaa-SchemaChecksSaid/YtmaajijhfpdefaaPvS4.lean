/- A part of the proof: functions of the program, walked, or what operations come to. -/
import Derived.Test.YtmaajijhfpdefaaPvS3
namespace Go.Pv
open Go.Proofs
attribute [local simp] Try.underlying31 Try.underlying41 Try.underlying29 strD
theorem Heap.new_get (H : Heap) (o : PObj) (j : Nat) : (H.new o).get j = if j = H.nx then some o else H.get j := by
  split
  · rename_i e; subst e; exact Heap.new_same _ _
  · rename_i e; exact Heap.new_ne _ _ e
theorem Heap.put_get (H : Heap) (o : Option PObj) (i j : Nat) : (H.put i o).get j = if j = i then o else H.get j := by
  split
  · rename_i e; subst e; exact Heap.put_same _ _ _
  · rename_i e; exact Heap.put_ne _ _ e
attribute [local simp] Heap.new_get Heap.put_get
@[simp] theorem res26 : Try.f26.results.toList = [.tmp 2, .tmp 3] := rfl
@[simp] theorem okPart_cl (k : Nat) : okPart (clD k) = true := by simp [clD]
def appK (e b : Nat) (s : D) (m : Option (List D)) (H : Heap) : Option (D × Heap) := match m with
  | some m => if isSliceD s = true then (if m.isEmpty = true then some (s, H) else match onto H e s with
    | some (l, H') => if (l.length + m.length) * b ≤ 140737488355328 then some (.row H.nx e 0 (l.length + m.length), H'.new (.row e (l ++ m))) else none
    | none => none) else none
  | none => none
theorem eAppend_of {P : Program} {t u e : TypeId} {inf : TypeInfo} {z : Value} (ht : P.underlying t = some (.slice e)) (hi : P.info? e = some inf) (hz : inf.zero = some z) {b : Nat} (hb : inf.bytes = b) (h0 : 0 < inf.size) (h1 : 0 < b) (h2 : z.cells.size = inf.size) (s x : D) (H : Heap) :
    eAppend P t u s x H = appK e b s (news P H e u x) H := by
  unfold eAppend appK
  rw [ht]
  simp only [hi, hz]
  subst hb
  cases news P H e u x with
  | none => rfl
  | some m => simp only [h0, h1, h2, true_and]; rfl
@[simp ↓] theorem append41 (s x : D) (H : Heap) : eAppend Try.prog 41 41 s x H = appK 31 104 s (news Try.prog H 31 41 x) H := eAppend_of Try.underlying41 (show Try.prog.info? 31 = some Try.t31 from rfl) (show Try.t31.zero = some _ from rfl) (by kernel_rfl) (by decide) (by decide) (by kernel_rfl) s x H
attribute [local simp] appK eBuildSlice
/-- A slice that may grow: nil, or a row of the call's own. -/
def Grow (H : Heap) (d : D) (e : TypeId) (l : List D) : Prop := (l = [] ∧ d = .slice 1 0 []) ∨ (∃ i, i < H.nx ∧ d = .row i e 0 l.length ∧ H.get i = some (.row e l) ∧ l ≠ [])
theorem fz_strs {P : Program} (n : Nat) (H : Heap) : ∀ l : List ByteArray, mapO (fz P (n + 1) H) (l.map strD) = some (l.map strD)
  | [] => rfl
  | s :: l => by rw [List.map_cons, mapO, fz_strs n H l]; rfl
theorem fz_list {P : Program} (n : Nat) (H : Heap) (e : TypeId) (l : List ByteArray) : fz P (n + 2) H (listD e l) = some (listD e l) := by
  unfold listD
  split
  · rfl
  · rw [fz]; simp only [fz_strs]
theorem fz_cl {P : Program} (n : Nat) (H : Heap) (k : Nat) : fz P (n + 4) H (clD k) = some (clD k) := by
  unfold clD
  rw [fz]
  simp only [mapO, fz_list, strD]
  rfl
theorem fz_cls {P : Program} (n : Nat) (H : Heap) : ∀ l : List Nat, mapO (fz P (n + 4) H) (l.map clD) = some (l.map clD)
  | [] => rfl
  | k :: l => by rw [List.map_cons, mapO, fz_cl n H k, fz_cls n H l]
theorem fz_row {P : Program} {n : Nat} {H : Heap} {i : Nat} {e : TypeId} {l : List D} (hi : H.get i = some (.row e l)) (hl : l ≠ []) (hm : mapO (fz P n H) l = some l) : fz P (n + 1) H (.row i e 0 l.length) = some (.slice 0 e l) := by
  rw [fz]
  simp only [hi]
  rw [if_pos ⟨trivial, by omega⟩, List.drop_zero, List.take_length, hm]
  have : l.length ≠ 0 := fun q => hl (List.eq_nil_of_length_eq_zero q)
  simp only [this, if_false]
theorem fz_pair {P : Program} {n : Nat} {H : Heap} {d d' : D} {v : Value} (h : fz P (n + 1) H d = some d') : fz P (n + 2) H (.tup [d, .val v]) = some (.tup [d', .val v]) := by
  rw [fz]
  simp only [mapO, h]
  rfl
def okAll (ss : List ByteArray) : Bool := ss.all fun s => decide (fcls s < 10)
def clsD (l : List Nat) : D := if l.isEmpty = true then .slice 1 0 [] else .slice 0 31 (l.map clD)
set_option maxHeartbeats 4000000 in
set_option maxRecDepth 100000 in
theorem found_local (g : Nat) (e : TypeId) (ss : List ByteArray) (he : ss = [] ∨ e = 9) (hs : ∀ s ∈ ss, s.size ≤ 140737488351232) (hl : ss.length ≤ 100000) : PCalls Try.prog 26 [.slice g e (ss.map strD)] (noHeap noG) fun d H' => fz Try.prog 20 H' d = some (.tup [if okAll ss = true then clsD (ss.map fcls) else .slice 1 0 [], .val (.bool (okAll ss))]) := by
  refine PCalls.of_pwp Try.call26 Try.func26 rfl (by simp [Try.ntmps26]) ?_
  rw [Try.ntmps26]
  repeat (first | with_reducible refine seq_k fun K hK => ?_ | (with_reducible refine region_k fun K hK => ?_; simp [*]) | with_reducible refine pwp_block ?_ | with_reducible refine pwp_skip ?_ | with_reducible refine pwp_ret ?_ | with_reducible refine pwp_exit ?_ | (with_reducible refine cond_t ?_ ?_; (focus (simp [*]; done))) | (with_reducible refine cond_f ?_ ?_; (focus (simp [*]; done))) | with_reducible refine then_n ?_ | with_reducible refine then_r ?_ | with_reducible refine then_e ?_ | with_reducible refine then_g ?_ | with_reducible refine inB_n ?_ | with_reducible refine inB_r ?_ | with_reducible refine inB_e ?_ | with_reducible refine inB_o rfl ?_ | with_reducible refine inB_g ?_ | with_reducible refine Leads.go (by assumption) ?_)
  refine pwp_loop (fun m st => ∃ k, k ≤ ss.length ∧ m = ss.length - k ∧ st.env.n = 28 ∧ st.df = [] ∧ st.env.get 9 = .slice g e (ss.map strD) ∧ st.env.get 10 = .val (.int .i64 ss.length) ∧ st.env.get 11 = .val (.int .i64 k) ∧
    (∃ acc, st.env.get 4 = acc ∧ Grow st.H acc 31 (((ss.take k).map fcls).map clD)) ∧ okAll (ss.take k) = true) ss.length ?_ ?_
  · refine ⟨0, by omega, by omega, by simp, rfl, by simp, by simp, by simp, ⟨_, rfl, .inl ⟨rfl, by simp⟩⟩, rfl⟩
  · rintro m ⟨E, H, df⟩ ⟨k, hk, rfl, en, edf, e9, e10, e11, ⟨acc, e4, eA⟩, eP⟩
    simp only at en edf e9 e10 e11 e4 eA
    subst edf
    by_cases h : k < ss.length
    · have hki : (k : Int) < (ss.length : Int) := by omega
      obtain ⟨s, hsk⟩ : ∃ s, ss[k]? = some s := ⟨_, List.getElem?_eq_getElem h⟩
      have hss := hs s (List.mem_of_getElem? hsk)
      have hL : (ss.map strD)[k]? = some (.val (.string s)) := by rw [List.getElem?_map, hsk]; rfl
      have hge : ∀ h, (ss.map strD)[k]'h = .val (.string s) := fun h => by have := hL; rw [List.getElem?_eq_getElem h] at this; exact Option.some.inj this
      have hLl : (ss.map strD).length = ss.length := by simp
      obtain rfl : e = 9 := he.resolve_left (fun q => by subst q; simp at h)
      generalize ss.map strD = L at *
      have hw := wrapSucc k (by omega)
      repeat (first | with_reducible refine seq_k fun K hK => ?_ | (with_reducible refine region_k fun K hK => ?_; simp [*]) | with_reducible refine pwp_block ?_ | with_reducible refine pwp_skip ?_ | with_reducible refine pwp_ret ?_ | with_reducible refine pwp_exit ?_ | (with_reducible refine cond_t ?_ ?_; (focus (simp [*]; done))) | (with_reducible refine cond_f ?_ ?_; (focus (simp [*]; done))) | with_reducible refine then_n ?_ | with_reducible refine then_r ?_ | with_reducible refine then_e ?_ | with_reducible refine then_g ?_ | with_reducible refine inB_n ?_ | with_reducible refine inB_r ?_ | with_reducible refine inB_e ?_ | with_reducible refine inB_o rfl ?_ | with_reducible refine inB_g ?_ | with_reducible refine Leads.go (by assumption) ?_)
      refine PCalls.mono (FindClass_spec s _ hss) ?_
      rintro _ H ⟨rfl, rfl⟩
      try simp [*]
      have hT : ss.take (k + 1) = ss.take k ++ [s] := by rw [List.take_add_one, hsk]; rfl
      have hAe : ∀ B : List D, (B = ((ss.take k).map fcls).map clD) → (((ss.take (k + 1)).map fcls).map clD) = B ++ [clD (fcls s)] := fun B hB => by rw [hT, hB]; simp
      have hP : okAll (ss.take (k + 1)) = decide (fcls s < 10) := by rw [hT]; simp only [okAll, List.all_append] at eP ⊢; rw [eP]; simp
      obtain ⟨A, hA⟩ : ∃ A, A = ((ss.take k).map fcls).map clD := ⟨_, rfl⟩
      have hAl : A.length = k := by rw [hA]; simp; omega
      have hAt : A.take k = A := List.take_of_length_le (by omega)
      have hE := hAe A hA
      clear hAe
      rw [← hA] at eA
      clear hA
      by_cases hf : fcls s < 10
      · rcases eA with ⟨eA1, rfl⟩ | ⟨i, hi, rfl, hH, hne⟩
        · repeat (first | with_reducible refine seq_k fun K hK => ?_ | (with_reducible refine region_k fun K hK => ?_; simp [*]) | with_reducible refine pwp_block ?_ | with_reducible refine pwp_skip ?_ | with_reducible refine pwp_ret ?_ | with_reducible refine pwp_exit ?_ | (with_reducible refine cond_t ?_ ?_; (focus (simp [*]; done))) | (with_reducible refine cond_f ?_ ?_; (focus (simp [*]; done))) | with_reducible refine then_n ?_ | with_reducible refine then_r ?_ | with_reducible refine then_e ?_ | with_reducible refine then_g ?_ | with_reducible refine inB_n ?_ | with_reducible refine inB_r ?_ | with_reducible refine inB_e ?_ | with_reducible refine inB_o rfl ?_ | with_reducible refine inB_g ?_ | with_reducible refine Leads.go (by assumption) ?_)
          refine ⟨ss.length - (k + 1), by omega, k + 1, by omega, rfl, by simp [*], rfl, by simp [*], by simp [*], by simp [*], ⟨.row (H.nx + 1 + 1) 31 0 1, by simp [*], ?_⟩, by simp [hP, hf]⟩
          rw [hE, eA1]
          exact .inr ⟨H.nx + 1 + 1, by simp, rfl, by simp; rfl, by simp⟩
        · have hi1 : i ≠ H.nx := by omega
          have hi2 : i ≠ H.nx + 1 := by omega
          repeat (first | with_reducible refine seq_k fun K hK => ?_ | (with_reducible refine region_k fun K hK => ?_; simp [*]) | with_reducible refine pwp_block ?_ | with_reducible refine pwp_skip ?_ | with_reducible refine pwp_ret ?_ | with_reducible refine pwp_exit ?_ | (with_reducible refine cond_t ?_ ?_; (focus (simp [*]; done))) | (with_reducible refine cond_f ?_ ?_; (focus (simp [*]; done))) | with_reducible refine then_n ?_ | with_reducible refine then_r ?_ | with_reducible refine then_e ?_ | with_reducible refine then_g ?_ | with_reducible refine inB_n ?_ | with_reducible refine inB_r ?_ | with_reducible refine inB_e ?_ | with_reducible refine inB_o rfl ?_ | with_reducible refine inB_g ?_ | with_reducible refine Leads.go (by assumption) ?_)
          refine ⟨by omega, ?_⟩
          repeat (first | with_reducible refine seq_k fun K hK => ?_ | (with_reducible refine region_k fun K hK => ?_; simp [*]) | with_reducible refine pwp_block ?_ | with_reducible refine pwp_skip ?_ | with_reducible refine pwp_ret ?_ | with_reducible refine pwp_exit ?_ | (with_reducible refine cond_t ?_ ?_; (focus (simp [*]; done))) | (with_reducible refine cond_f ?_ ?_; (focus (simp [*]; done))) | with_reducible refine then_n ?_ | with_reducible refine then_r ?_ | with_reducible refine then_e ?_ | with_reducible refine then_g ?_ | with_reducible refine inB_n ?_ | with_reducible refine inB_r ?_ | with_reducible refine inB_e ?_ | with_reducible refine inB_o rfl ?_ | with_reducible refine inB_g ?_ | with_reducible refine Leads.go (by assumption) ?_)
          refine ⟨ss.length - (k + 1), by omega, k + 1, by omega, rfl, by simp [*], rfl, by simp [*], by simp [*], by simp [*], ⟨.row (H.nx + 1 + 1) 31 0 (k + 1), by simp [*], ?_⟩, by simp [hP, hf]⟩
          rw [hE]
          exact .inr ⟨H.nx + 1 + 1, by simp, by simp [hAl], by simp [hAt]; rfl, by simp⟩
      · have hall : okAll ss = false := by
          rw [okAll, List.all_eq_false]
          exact ⟨s, List.mem_of_getElem? hsk, by simp [hf]⟩
        repeat (first | with_reducible refine seq_k fun K hK => ?_ | (with_reducible refine region_k fun K hK => ?_; simp [*]) | with_reducible refine pwp_block ?_ | with_reducible refine pwp_skip ?_ | with_reducible refine pwp_ret ?_ | with_reducible refine pwp_exit ?_ | (with_reducible refine cond_t ?_ ?_; (focus (simp [*]; done))) | (with_reducible refine cond_f ?_ ?_; (focus (simp [*]; done))) | with_reducible refine then_n ?_ | with_reducible refine then_r ?_ | with_reducible refine then_e ?_ | with_reducible refine then_g ?_ | with_reducible refine inB_n ?_ | with_reducible refine inB_r ?_ | with_reducible refine inB_e ?_ | with_reducible refine inB_o rfl ?_ | with_reducible refine inB_g ?_ | with_reducible refine Leads.go (by assumption) ?_)
        simp [*]
        rfl
    · have hks : k = ss.length := by omega
      subst hks
      rw [List.take_length] at eP eA
      have hall : okAll ss = true := eP
      rcases eA with ⟨eA1, rfl⟩ | ⟨i, hi, rfl, hH, hne⟩
      · have hnil : ss = [] := by simpa using eA1
        subst hnil
        repeat (first | with_reducible refine seq_k fun K hK => ?_ | (with_reducible refine region_k fun K hK => ?_; simp [*]) | with_reducible refine pwp_block ?_ | with_reducible refine pwp_skip ?_ | with_reducible refine pwp_ret ?_ | with_reducible refine pwp_exit ?_ | (with_reducible refine cond_t ?_ ?_; (focus (simp [*]; done))) | (with_reducible refine cond_f ?_ ?_; (focus (simp [*]; done))) | with_reducible refine then_n ?_ | with_reducible refine then_r ?_ | with_reducible refine then_e ?_ | with_reducible refine then_g ?_ | with_reducible refine inB_n ?_ | with_reducible refine inB_r ?_ | with_reducible refine inB_e ?_ | with_reducible refine inB_o rfl ?_ | with_reducible refine inB_g ?_ | with_reducible refine Leads.go (by assumption) ?_)
        simp [*]
        rfl
      · have hne' : ss ≠ [] := fun q => by subst q; simp at hne
        have hne2 : (ss.map fcls).isEmpty = false := by cases ss <;> simp_all
        repeat (first | with_reducible refine seq_k fun K hK => ?_ | (with_reducible refine region_k fun K hK => ?_; simp [*]) | with_reducible refine pwp_block ?_ | with_reducible refine pwp_skip ?_ | with_reducible refine pwp_ret ?_ | with_reducible refine pwp_exit ?_ | (with_reducible refine cond_t ?_ ?_; (focus (simp [*]; done))) | (with_reducible refine cond_f ?_ ?_; (focus (simp [*]; done))) | with_reducible refine then_n ?_ | with_reducible refine then_r ?_ | with_reducible refine then_e ?_ | with_reducible refine then_g ?_ | with_reducible refine inB_n ?_ | with_reducible refine inB_r ?_ | with_reducible refine inB_e ?_ | with_reducible refine inB_o rfl ?_ | with_reducible refine inB_g ?_ | with_reducible refine Leads.go (by assumption) ?_)
        simp [*]
        have hr := fz_pair (v := .bool true) (fz_row (n := 18) hH hne (fz_cls (P := Try.prog) 14 H (ss.map fcls)))
        simp only [List.length_map] at hr
        rw [clsD, if_neg (by rw [hne2]; decide)]
        exact hr
/-- The classes of names, if each is one. -/
def foundD (ss : List ByteArray) : D := .tup [if okAll ss = true then clsD (ss.map fcls) else .slice 1 0 [], .val (.bool (okAll ss))]
theorem pure_strs (g : Nat) (e : TypeId) (l : List ByteArray) : Pure (.slice g e (l.map strD)) := by
  refine .slice _ _ _ fun d hd => ?_
  simp only [flat, List.mem_flatMap, List.mem_map] at hd
  obtain ⟨x, ⟨y, _, rfl⟩, hd⟩ := hd
  simp [strD] at hd
  subst hd
  exact .val _
theorem pure_clsD (l : List Nat) : Pure (clsD l) := by
  unfold clsD
  split
  · exact .slice _ _ _ fun d hd => by cases hd
  · exact pure_cls _ _ _
theorem found_spec (g : Nat) (e : TypeId) (ss : List ByteArray) (he : ss = [] ∨ e = 9) (hs : ∀ s ∈ ss, s.size ≤ 140737488351232) (hl : ss.length ≤ 100000) (H : Heap) : PCalls Try.prog 26 [.slice g e (ss.map strD)] H fun d H' => d = foundD ss ∧ H' = H :=
  PCalls.liftG (PCalls.frozen (found_local g e ss he hs hl)) (fun d hd => by simp only [List.mem_cons, List.mem_nil_iff, or_false] at hd; subst hd; exact pure_strs _ _ _)
    (.tup _ fun d hd => by
      simp only [List.mem_cons, List.mem_nil_iff, or_false] at hd
      rcases hd with rfl | rfl
      · split
        · exact pure_clsD _
        · exact .slice _ _ _ fun d hd => by cases hd
      · exact .val _) H
end Go.Pv
