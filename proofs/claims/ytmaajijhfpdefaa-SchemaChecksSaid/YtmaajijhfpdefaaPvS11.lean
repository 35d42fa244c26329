/- A part of the proof: functions of the program, walked, or what operations come to. -/
import Derived.Test.YtmaajijhfpdefaaPvS10
import Derived.Test.YtmaajijhfpdefaaPvUniq
namespace Go.Pv
open Go.Proofs
attribute [local simp] Try.underlying29 Try.underlying31 Try.underlying41 Try.underlying46 Heap.new_get Heap.put_get strD eBuildSlice
@[simp] theorem res5 : Try.f5.results.toList = [.tmp 6] := rfl
/-- A row of the call's own. -/
def Own (H : Heap) (d : D) (l : List D) : Prop := ∃ i, i < H.nx ∧ d = .row i 9 0 l.length ∧ H.get i = some (.row 9 l)
theorem own_append {H : Heap} {d : D} {A : List D} (N : List D) (h : Own H d A) (hb : (A.length + N.length) * 16 ≤ 140737488355328) : ∃ r H1, appK 9 16 d (some N) H = some (r, H1) ∧ Own H1 r (A ++ N) := by
  obtain ⟨i, hi, rfl, hH⟩ := h
  by_cases hN : N = []
  · subst hN
    exact ⟨_, _, rfl, i, hi, by simp, by simpa using hH⟩
  · have hNe : N.isEmpty = false := by cases N <;> simp_all
    refine ⟨.row H.nx 9 0 (A.length + N.length), (H.put i none).new (.row 9 (A ++ N)), by simp [appK, isSliceD, hN, onto, hH, hb], H.nx, by simp, by simp, Heap.new_same (H.put i none) _⟩
theorem own_two (H : Heap) (A N : List D) (hb : (A.length + N.length) * 16 ≤ 140737488355328) : ∃ r1 H1 r2 H2, appK 9 16 (.row H.nx 9 0 0) (some A) (H.new (.row 9 [])) = some (r1, H1) ∧ appK 9 16 r1 (some N) H1 = some (r2, H2) ∧ Own H2 r2 (A ++ N) := by
  obtain ⟨r1, H1, a1, o1⟩ := own_append (H := H.new (.row 9 [])) (d := .row H.nx 9 0 0) (A := []) A ⟨H.nx, by simp, rfl, Heap.new_same _ _⟩ (by simp; omega)
  obtain ⟨r2, H2, a2, o2⟩ := own_append N o1 (by simpa using hb)
  exact ⟨r1, H1, r2, H2, a1, a2, by simpa using o2⟩
theorem fz_own {P : Program} (n : Nat) {H : Heap} {d : D} {ss : List ByteArray} (h : Own H d (ss.map strD)) : fz P (n + 2) H d = some (.slice (if ss.length = 0 then 3 else 0) 9 (ss.map strD)) := by
  obtain ⟨i, _, rfl, hH⟩ := h
  rw [fz]
  simp only [hH]
  rw [if_pos ⟨trivial, by omega⟩, List.drop_zero, List.take_length, fz_strs]
  simp
theorem mustU_len (ks : List Nat) : (mustU ks).length ≤ 12 * ks.length := by
  have := uniq_len (byts (mustL ks))
  have := mustL_len ks
  rw [byts_len] at *
  unfold mustU; omega
theorem mayU_len (ks : List Nat) : (mayU ks).length ≤ 12 * ks.length := by
  have := uniq_len (byts (mayL ks))
  have := mayL_len ks
  have h : (mayU ks).length ≤ (uniq (byts (mayL ks))).length := List.length_filter_le _ _
  rw [byts_len] at *
  omega
theorem AllRes.form {ss : List ByteArray} {r : D} (h : AllRes ss r) : ∃ (a1 : Nat) (b1 : TypeId) (a2 : Nat) (b2 : TypeId) (U V : List (List UInt8)) (n : Int), r = .tup [.slice a1 b1 (lb U), .slice a2 b2 (lb V), .val (.int .i64 n)] ∧ (U = [] ∨ b1 = 9) ∧ (V = [] ∨ b2 = 9) ∧
    U.length ≤ 12 * ss.length ∧ V.length ≤ 12 * ss.length ∧ ((okAll ss = true ∧ n = 0 ∧ U = mustU (ss.map fcls) ∧ V = mayU (ss.map fcls)) ∨ (okAll ss = false ∧ n = 13 ∧ U = [] ∧ V = [])) := by
  unfold AllRes at h
  split at h
  · rename_i hok
    obtain ⟨d1, d2, rfl, ⟨a1, b1, rfl, h1⟩, ⟨a2, b2, rfl, h2⟩⟩ := h
    have m1 := mustU_len (ss.map fcls)
    have m2 := mayU_len (ss.map fcls)
    rw [List.length_map] at m1 m2
    exact ⟨a1, b1, a2, b2, _, _, 0, rfl, h1, h2, m1, m2, .inl ⟨hok, rfl, rfl, rfl⟩⟩
  · rename_i hok
    exact ⟨1, 0, 1, 0, [], [], 13, h, .inl rfl, .inl rfl, by simp, by simp, .inr ⟨by simpa using hok, rfl, rfl, rfl⟩⟩
theorem All_own {H : Heap} {d : D} {ss : List ByteArray} (h : Own H d (ss.map strD)) (hs : ∀ s ∈ ss, s.size ≤ 140737488351232) (hl : ss.length ≤ 1000) : PCalls Try.prog 18 [d] H fun r H' => AllRes ss r ∧ H' = ⟨.nil, H.nx, H.G⟩ :=
  PCalls.thaw (k := 20) (ds' := [.slice (if ss.length = 0 then 3 else 0) 9 (ss.map strD)]) (by rw [mapO, fz_own 18 h]; rfl) (All_spec _ 9 ss (.inr rfl) hs hl _)
def person : ByteArray := ⟨#[112, 101, 114, 115, 111, 110]⟩
def noClass : ByteArray := ⟨#[110, 111, 32, 99, 108, 97, 115, 115]⟩
theorem ok_person : okAll [person] = true := by kernel_rfl
theorem ok_noClass : okAll [noClass] = false := by kernel_rfl
theorem All_person (H : Heap) : PCalls Try.prog 18 [.row H.nx 9 0 1] (H.new (.row 9 [.val (.string ⟨#[112, 101, 114, 115, 111, 110]⟩)])) fun r H' => ∃ x y, r = .tup [x, y, .val (.int .i64 0)] := by
  refine PCalls.mono (All_own (ss := [person]) ⟨H.nx, by simp, rfl, Heap.new_same _ _⟩ (fun s hs => by simp only [List.mem_singleton] at hs; subst hs; decide) (by decide)) ?_
  rintro r _ ⟨h, rfl⟩
  rw [AllRes, if_pos ok_person] at h
  obtain ⟨d1, d2, rfl, _⟩ := h
  exact ⟨_, _, rfl⟩
theorem All_noClass (H : Heap) : PCalls Try.prog 18 [.row H.nx 9 0 1] (H.new (.row 9 [.val (.string ⟨#[110, 111, 32, 99, 108, 97, 115, 115]⟩)])) fun r H' => ∃ x y, r = .tup [x, y, .val (.int .i64 13)] := by
  refine PCalls.mono (All_own (ss := [noClass]) ⟨H.nx, by simp, rfl, Heap.new_same _ _⟩ (fun s hs => by simp only [List.mem_singleton] at hs; subst hs; decide) (by decide)) ?_
  rintro r _ ⟨h, rfl⟩
  rw [AllRes, if_neg (by rw [ok_noClass]; decide)] at h
  exact ⟨_, _, h⟩
theorem mem_uniq (l : List Bs) (x : Bs) : x ∈ uniq l ↔ x ∈ l := cs_mem l x
theorem mem_mustU (ks : List Nat) (x : Bs) : x ∈ mustU ks ↔ ∃ k, k ∈ ks ∧ x ∈ byts ((ch k).flatMap mu) := by
  rw [mustU, mem_uniq, byts, mustL, List.mem_map]
  simp only [List.mem_flatMap, byts, List.mem_map]
  constructor
  · rintro ⟨a, ⟨k, hk, b, hb, h⟩, rfl⟩; exact ⟨k, hk, a, ⟨b, hb, h⟩, rfl⟩
  · rintro ⟨k, hk, a, ⟨b, hb, h⟩, rfl⟩; exact ⟨a, ⟨k, hk, b, hb, h⟩, rfl⟩
theorem mem_mayL (ks : List Nat) (x : Bs) : x ∈ byts (mayL ks) ↔ ∃ k, k ∈ ks ∧ x ∈ byts ((ch k).flatMap ma) := by
  rw [byts, mayL, List.mem_map]
  simp only [List.mem_flatMap, byts, List.mem_map]
  constructor
  · rintro ⟨a, ⟨k, hk, b, hb, h⟩, rfl⟩; exact ⟨k, hk, a, ⟨b, hb, h⟩, rfl⟩
  · rintro ⟨k, hk, a, ⟨b, hb, h⟩, rfl⟩; exact ⟨a, ⟨k, hk, b, hb, h⟩, rfl⟩
theorem mem_mayU (ks : List Nat) (x : Bs) : x ∈ mayU ks ↔ (∃ k, k ∈ ks ∧ x ∈ byts ((ch k).flatMap ma)) ∧ x ∉ mustU ks := by
  rw [mayU, rest, List.mem_filter, mem_uniq, mem_mayL]
  simp
theorem must_mono {ks ks' : List Nat} (h : ∀ x ∈ ks, x ∈ ks') : ∀ x ∈ mustU ks, x ∈ mustU ks' := fun x hx => by
  rw [mem_mustU] at hx ⊢
  obtain ⟨k, h1, h2⟩ := hx
  exact ⟨k, h k h1, h2⟩
theorem may_mono {ks ks' : List Nat} (h : ∀ x ∈ ks, x ∈ ks') : ∀ x ∈ mayU ks, x ∈ mustU ks' ∨ x ∈ mayU ks' := fun x hx => by
  rw [mem_mayU] at hx ⊢
  obtain ⟨⟨k, h1, h2⟩, _⟩ := hx
  by_cases hm : x ∈ mustU ks'
  · exact .inl hm
  · exact .inr ⟨⟨k, h k h1, h2⟩, hm⟩
theorem must_ext {ks ks' : List Nat} (h : ∀ x, x ∈ ks ↔ x ∈ ks') : mustU ks = mustU ks' := cs_ext fun x => by
  rw [← mem_uniq (byts (mustL ks)), ← mem_uniq (byts (mustL ks'))]
  exact ⟨must_mono (fun x => (h x).1) x, must_mono (fun x => (h x).2) x⟩
theorem may_ext {ks ks' : List Nat} (h : ∀ x, x ∈ ks ↔ x ∈ ks') : mayU ks = mayU ks' := by
  rw [mayU, mayU, must_ext h]
  congr 1
  refine cs_ext fun x => ?_
  rw [mem_mayL, mem_mayL]
  exact ⟨fun ⟨k, h1, h2⟩ => ⟨k, (h k).1 h1, h2⟩, fun ⟨k, h1, h2⟩ => ⟨k, (h k).2 h1, h2⟩⟩
set_option maxHeartbeats 8000000 in
set_option maxRecDepth 100000 in
theorem SchemaMore_walk (g1 : Nat) (l : List ByteArray) (g2 : Nat) (more : List ByteArray) (turn : Int) : PCalls Try.prog 5 [.slice g1 9 (l.map strD), .slice g2 9 (more.map strD), .val (.int .i64 turn)] (noHeap noG) fun d _ => d = .val (.bool true) := by
  refine PCalls.of_pwp Try.call5 Try.func5 rfl (by simp [Try.ntmps5]) ?_
  rw [Try.ntmps5]
  by_cases h1 : fs l ≤ 600
  · by_cases h2 : fs more ≤ 600
    · obtain ⟨n1, s1⟩ := fs_size h1
      obtain ⟨n2, s2⟩ := fs_size h2
      repeat (first | with_reducible refine seq_k fun K hK => ?_ | (with_reducible refine region_k fun K hK => ?_; simp [*]) | (with_reducible refine region_draw_k mixedO (by kernel_rfl) fun K hK => ?_; simp [*]) | with_reducible refine pwp_block ?_ | with_reducible refine pwp_skip ?_ | with_reducible refine pwp_ret ?_ | with_reducible refine pwp_exit ?_ | (with_reducible refine cond_t ?_ ?_; (focus (simp [*]; done))) | (with_reducible refine cond_f ?_ ?_; (focus (simp [*]; done))) | with_reducible refine then_n ?_ | with_reducible refine then_r ?_ | with_reducible refine then_e ?_ | with_reducible refine then_g ?_ | with_reducible refine inB_n ?_ | with_reducible refine inB_r ?_ | with_reducible refine inB_e ?_ | with_reducible refine inB_o rfl ?_ | with_reducible refine inB_g ?_ | with_reducible refine Leads.go (by assumption) ?_)
      refine PCalls.mono (few_spec g1 9 l (.inr rfl) _) ?_
      rintro _ _ ⟨rfl, rfl⟩
      simp [*]
      refine PCalls.mono (few_spec g2 9 more (.inr rfl) _) ?_
      rintro _ _ ⟨rfl, rfl⟩
      simp [*]
      repeat (first | with_reducible refine seq_k fun K hK => ?_ | (with_reducible refine region_k fun K hK => ?_; simp [*]) | (with_reducible refine region_draw_k mixedO (by kernel_rfl) fun K hK => ?_; simp [*]) | with_reducible refine pwp_block ?_ | with_reducible refine pwp_skip ?_ | with_reducible refine pwp_ret ?_ | with_reducible refine pwp_exit ?_ | (with_reducible refine cond_t ?_ ?_; (focus (simp [*]; done))) | (with_reducible refine cond_f ?_ ?_; (focus (simp [*]; done))) | with_reducible refine then_n ?_ | with_reducible refine then_r ?_ | with_reducible refine then_e ?_ | with_reducible refine then_g ?_ | with_reducible refine inB_n ?_ | with_reducible refine inB_r ?_ | with_reducible refine inB_e ?_ | with_reducible refine inB_o rfl ?_ | with_reducible refine inB_g ?_ | with_reducible refine Leads.go (by assumption) ?_)
      refine PCalls.mono (All_spec g1 9 l (.inr rfl) (fun s hs => by have := s1 s hs; omega) (by omega) _) ?_
      rintro r1 _ ⟨hr1, rfl⟩
      obtain ⟨a1, b1, a2, b2, U, V, nA, rfl, hb1, hb2, hU, hV, hA⟩ := hr1.form
      have hnx : (noHeap noG).nx = 0 := rfl
      clear hr1
      simp [*]
      repeat (first | with_reducible refine seq_k fun K hK => ?_ | (with_reducible refine region_k fun K hK => ?_; simp [*]) | (with_reducible refine region_draw_k mixedO (by kernel_rfl) fun K hK => ?_; simp [*]) | with_reducible refine pwp_block ?_ | with_reducible refine pwp_skip ?_ | with_reducible refine pwp_ret ?_ | with_reducible refine pwp_exit ?_ | (with_reducible refine cond_t ?_ ?_; (focus (simp [*]; done))) | (with_reducible refine cond_f ?_ ?_; (focus (simp [*]; done))) | with_reducible refine then_n ?_ | with_reducible refine then_r ?_ | with_reducible refine then_e ?_ | with_reducible refine then_g ?_ | with_reducible refine inB_n ?_ | with_reducible refine inB_r ?_ | with_reducible refine inB_e ?_ | with_reducible refine inB_o rfl ?_ | with_reducible refine inB_g ?_ | with_reducible refine Leads.go (by assumption) ?_)
      have h3 : (l ++ more).length ≤ 120 := by simp; omega
      have s3 : ∀ s ∈ l ++ more, s.size ≤ 600 := fun s hs => (List.mem_append.1 hs).elim (s1 s) (s2 s)
      have hokA : okAll (l ++ more) = (okAll l && okAll more) := by simp [okAll]
      obtain ⟨both, hboth⟩ : ∃ both, both = l ++ more := ⟨_, rfl⟩
      obtain ⟨r1, H1, r2, H2, k1, k2, ho⟩ := own_two (noHeap noG) (l.map strD) (more.map strD) (by simp; omega)
      rw [← List.map_append, ← hboth] at ho
      rw [← hboth] at h3 s3 hokA
      rw [hnx] at k1
      simp [k1, k2]
      repeat (first | with_reducible refine then_n ?_ | with_reducible refine then_r ?_ | with_reducible refine then_e ?_ | with_reducible refine then_g ?_ | with_reducible refine inB_n ?_ | with_reducible refine inB_r ?_ | with_reducible refine inB_e ?_ | with_reducible refine inB_o rfl ?_ | with_reducible refine inB_g ?_ | with_reducible refine Leads.go (by assumption) ?_)
      refine pwp_freeze (k := 20) [(10, .slice (if both.length = 0 then 3 else 0) 9 (both.map strD))] ?_ ?_
      · intro p hp
        simp only [List.mem_singleton] at hp
        subst hp
        simp only [Env.get_set]
        exact fz_own 18 ho
      generalize (if both.length = 0 then 3 else 0) = g3
      simp only [setAll_cons, setAll_nil]
      have kboth := Hold.mk hboth
      clear k1 k2 ho hboth
      repeat (first | with_reducible refine seq_k fun K hK => ?_ | (with_reducible refine region_k fun K hK => ?_; simp [*]) | (with_reducible refine region_draw_k mixedO (by kernel_rfl) fun K hK => ?_; simp [*]) | with_reducible refine pwp_block ?_ | with_reducible refine pwp_skip ?_ | with_reducible refine pwp_ret ?_ | with_reducible refine pwp_exit ?_ | (with_reducible refine cond_t ?_ ?_; (focus (simp [*]; done))) | (with_reducible refine cond_f ?_ ?_; (focus (simp [*]; done))) | with_reducible refine then_n ?_ | with_reducible refine then_r ?_ | with_reducible refine then_e ?_ | with_reducible refine then_g ?_ | with_reducible refine inB_n ?_ | with_reducible refine inB_r ?_ | with_reducible refine inB_e ?_ | with_reducible refine inB_o rfl ?_ | with_reducible refine inB_g ?_ | with_reducible refine Leads.go (by assumption) ?_)
      refine PCalls.mono (All_spec g3 9 both (.inr rfl) (fun s hs => by have := s3 s hs; omega) (by omega) _) ?_
      rintro r3 _ ⟨hr3, rfl⟩
      obtain ⟨c1, e1, c2, e2, U2, V2, nB, rfl, he1, he2, hU2, hV2, hB⟩ := hr3.form
      clear hr3
      rcases hA with ⟨oA, rfl, rfl, rfl⟩ | ⟨oA, rfl, rfl, rfl⟩
      · rcases hB with ⟨oB, rfl, rfl, rfl⟩ | ⟨oB, rfl, rfl, rfl⟩
        · have hUU : ∀ x ∈ mustU (l.map fcls), x ∈ mustU (both.map fcls) := must_mono (by rw [kboth.out, List.map_append]; exact fun x hx => List.mem_append_left _ hx)
          have hVV : ∀ x ∈ mayU (l.map fcls), x ∈ mustU (both.map fcls) ∨ x ∈ mayU (both.map fcls) := may_mono (by rw [kboth.out, List.map_append]; exact fun x hx => List.mem_append_left _ hx)
          have hX := fun ks q => Hold.mk (must_ext (ks := ks) (ks' := both.map fcls) q)
          have hY := fun ks q => Hold.mk (may_ext (ks := ks) (ks' := both.map fcls) q)
          generalize mustU (l.map fcls) = U at *
          generalize mayU (l.map fcls) = V at *
          generalize mustU (both.map fcls) = U2 at *
          generalize mayU (both.map fcls) = V2 at *
          have hU9 : U.length ≤ 1000 := by omega
          have hV9 : V.length ≤ 1000 := by omega
          have hU29 : U2.length ≤ 10000 := by omega
          have hV29 : V2.length ≤ 10000 := by omega
          clear hU hV hU2 hV2
          simp [*]
          repeat (first | with_reducible refine seq_k fun K hK => ?_ | (with_reducible refine region_k fun K hK => ?_; simp [*]) | (with_reducible refine region_draw_k mixedO (by kernel_rfl) fun K hK => ?_; simp [*]) | with_reducible refine pwp_block ?_ | with_reducible refine pwp_skip ?_ | with_reducible refine pwp_ret ?_ | with_reducible refine pwp_exit ?_ | (with_reducible refine cond_t ?_ ?_; (focus (simp [*]; done))) | (with_reducible refine cond_f ?_ ?_; (focus (simp [*]; done))) | with_reducible refine then_n ?_ | with_reducible refine then_r ?_ | with_reducible refine then_e ?_ | with_reducible refine then_g ?_ | with_reducible refine inB_n ?_ | with_reducible refine inB_r ?_ | with_reducible refine inB_e ?_ | with_reducible refine inB_o rfl ?_ | with_reducible refine inB_g ?_ | with_reducible refine Leads.go (by assumption) ?_)
          generalize (⟨.nil, H2.nx, H2.G⟩ : Heap) = HX
          have hX2 := Hold.mk hX
          have hY2 := Hold.mk hY
          clear hX hY
          refine pwp_for U.length (fun k st => st.env.n = 160 ∧ st.df = [] ∧ st.H = HX ∧ slots st.env [(2, .val (.int .i64 turn)), (7, .slice a1 b1 (lb U)), (8, .slice a2 b2 (lb V)), (10, .slice g3 9 (both.map strD)), (11, .slice c1 e1 (lb U2)), (12, .slice c2 e2 (lb V2)), (17, .val (.int .i64 k))]) ?_ ?_ ?_
          · simp
          · rintro k ⟨E, H, df⟩ h ⟨en, edf, eH, ⟨f2, f7, f8, f10, f11, f12, f17, -⟩⟩
            simp only at en edf eH f2 f7 f8 f10 f11 f12 f17
            subst edf; subst eH
            have hki : (k : Int) < (U.length : Int) := by omega
            obtain ⟨c, hc⟩ : ∃ c, U[k]? = some c := ⟨_, List.getElem?_eq_getElem h⟩
            have hL := lb_get hc
            have hge := get_of hL
            have hLl : (lb U).length = U.length := lb_len U
            obtain rfl : b1 = 9 := hb1.resolve_left (fun q => by subst q; simp at h)
            have hw := wrapSucc k (by omega)
            have hm := hUU c (List.mem_of_getElem? hc)
            have hh := has_spec c1 e1 U2 c he1 (by omega) H
            generalize lb U = L at *
            clear hUU hVV
            repeat (first | with_reducible refine seq_k fun K hK => ?_ | (with_reducible refine region_k fun K hK => ?_; simp [*]) | (with_reducible refine region_draw_k mixedO (by kernel_rfl) fun K hK => ?_; simp [*]) | with_reducible refine pwp_block ?_ | with_reducible refine pwp_skip ?_ | with_reducible refine pwp_ret ?_ | with_reducible refine pwp_exit ?_ | (with_reducible refine cond_t ?_ ?_; (focus (simp [*]; done))) | (with_reducible refine cond_f ?_ ?_; (focus (simp [*]; done))) | with_reducible refine then_n ?_ | with_reducible refine then_r ?_ | with_reducible refine then_e ?_ | with_reducible refine then_g ?_ | with_reducible refine inB_n ?_ | with_reducible refine inB_r ?_ | with_reducible refine inB_e ?_ | with_reducible refine inB_o rfl ?_ | with_reducible refine inB_g ?_ | with_reducible refine Leads.go (by assumption) ?_)
            refine PCalls.mono hh ?_
            rintro _ _ ⟨rfl, rfl⟩
            clear hh
            simp [*]
            repeat (first | with_reducible refine seq_k fun K hK => ?_ | (with_reducible refine region_k fun K hK => ?_; simp [*]) | (with_reducible refine region_draw_k mixedO (by kernel_rfl) fun K hK => ?_; simp [*]) | with_reducible refine pwp_block ?_ | with_reducible refine pwp_skip ?_ | with_reducible refine pwp_ret ?_ | with_reducible refine pwp_exit ?_ | (with_reducible refine cond_t ?_ ?_; (focus (simp [*]; done))) | (with_reducible refine cond_f ?_ ?_; (focus (simp [*]; done))) | with_reducible refine then_n ?_ | with_reducible refine then_r ?_ | with_reducible refine then_e ?_ | with_reducible refine then_g ?_ | with_reducible refine inB_n ?_ | with_reducible refine inB_r ?_ | with_reducible refine inB_e ?_ | with_reducible refine inB_o rfl ?_ | with_reducible refine inB_g ?_ | with_reducible refine Leads.go (by assumption) ?_)
            simp [*]
          · rintro ⟨E, H, df⟩ ⟨en, edf, eH, ⟨f2, f7, f8, f10, f11, f12, f17, -⟩⟩
            simp only at en edf eH f2 f7 f8 f10 f11 f12 f17
            subst edf; subst eH
            repeat (first | with_reducible refine seq_k fun K hK => ?_ | (with_reducible refine region_k fun K hK => ?_; simp [*]) | (with_reducible refine region_draw_k mixedO (by kernel_rfl) fun K hK => ?_; simp [*]) | with_reducible refine pwp_block ?_ | with_reducible refine pwp_skip ?_ | with_reducible refine pwp_ret ?_ | with_reducible refine pwp_exit ?_ | (with_reducible refine cond_t ?_ ?_; (focus (simp [*]; done))) | (with_reducible refine cond_f ?_ ?_; (focus (simp [*]; done))) | with_reducible refine then_n ?_ | with_reducible refine then_r ?_ | with_reducible refine then_e ?_ | with_reducible refine then_g ?_ | with_reducible refine inB_n ?_ | with_reducible refine inB_r ?_ | with_reducible refine inB_e ?_ | with_reducible refine inB_o rfl ?_ | with_reducible refine inB_g ?_ | with_reducible refine Leads.go (by assumption) ?_)
            clear f17
            refine pwp_for V.length (fun k st => st.env.n = 160 ∧ st.df = [] ∧ st.H = H ∧ slots st.env [(2, .val (.int .i64 turn)), (8, .slice a2 b2 (lb V)), (10, .slice g3 9 (both.map strD)), (11, .slice c1 e1 (lb U2)), (12, .slice c2 e2 (lb V2)), (18, .val (.int .i64 k))]) ?_ ?_ ?_
            · simp [*]
            · clear en f2 f7 f8 f10 f11 f12
              rintro k ⟨E, H, df⟩ h ⟨en, edf, eH, ⟨f2, f8, f10, f11, f12, f18, -⟩⟩
              simp only at en edf eH f2 f8 f10 f11 f12 f18
              subst edf; subst eH
              have hki : (k : Int) < (V.length : Int) := by omega
              obtain ⟨c, hc⟩ : ∃ c, V[k]? = some c := ⟨_, List.getElem?_eq_getElem h⟩
              have hL := lb_get hc
              have hge := get_of hL
              have hLl : (lb V).length = V.length := lb_len V
              obtain rfl : b2 = 9 := hb2.resolve_left (fun q => by subst q; simp at h)
              have hw := wrapSucc k (by omega)
              have hm := hVV c (List.mem_of_getElem? hc)
              have hh := has_spec c1 e1 U2 c he1 (by omega) H
              have hh2 := has_spec c2 e2 V2 c he2 (by omega) H
              generalize lb V = L at *
              clear hUU hVV
              repeat (first | with_reducible refine seq_k fun K hK => ?_ | (with_reducible refine region_k fun K hK => ?_; simp [*]) | (with_reducible refine region_draw_k mixedO (by kernel_rfl) fun K hK => ?_; simp [*]) | with_reducible refine pwp_block ?_ | with_reducible refine pwp_skip ?_ | with_reducible refine pwp_ret ?_ | with_reducible refine pwp_exit ?_ | (with_reducible refine cond_t ?_ ?_; (focus (simp [*]; done))) | (with_reducible refine cond_f ?_ ?_; (focus (simp [*]; done))) | with_reducible refine then_n ?_ | with_reducible refine then_r ?_ | with_reducible refine then_e ?_ | with_reducible refine then_g ?_ | with_reducible refine inB_n ?_ | with_reducible refine inB_r ?_ | with_reducible refine inB_e ?_ | with_reducible refine inB_o rfl ?_ | with_reducible refine inB_g ?_ | with_reducible refine Leads.go (by assumption) ?_)
              refine PCalls.mono hh ?_
              rintro _ _ ⟨rfl, rfl⟩
              clear hh
              by_cases hu : c ∈ U2
              · clear hm
                simp [*]
                repeat (first | with_reducible refine seq_k fun K hK => ?_ | (with_reducible refine region_k fun K hK => ?_; simp [*]) | (with_reducible refine region_draw_k mixedO (by kernel_rfl) fun K hK => ?_; simp [*]) | with_reducible refine pwp_block ?_ | with_reducible refine pwp_skip ?_ | with_reducible refine pwp_ret ?_ | with_reducible refine pwp_exit ?_ | (with_reducible refine cond_t ?_ ?_; (focus (simp [*]; done))) | (with_reducible refine cond_f ?_ ?_; (focus (simp [*]; done))) | with_reducible refine then_n ?_ | with_reducible refine then_r ?_ | with_reducible refine then_e ?_ | with_reducible refine then_g ?_ | with_reducible refine inB_n ?_ | with_reducible refine inB_r ?_ | with_reducible refine inB_e ?_ | with_reducible refine inB_o rfl ?_ | with_reducible refine inB_g ?_ | with_reducible refine Leads.go (by assumption) ?_)
                simp [*]
              · have hv := hm.resolve_left hu
                clear hm
                simp [*]
                refine PCalls.mono hh2 ?_
                rintro _ _ ⟨rfl, rfl⟩
                clear hh2
                simp [*]
                repeat (first | with_reducible refine seq_k fun K hK => ?_ | (with_reducible refine region_k fun K hK => ?_; simp [*]) | (with_reducible refine region_draw_k mixedO (by kernel_rfl) fun K hK => ?_; simp [*]) | with_reducible refine pwp_block ?_ | with_reducible refine pwp_skip ?_ | with_reducible refine pwp_ret ?_ | with_reducible refine pwp_exit ?_ | (with_reducible refine cond_t ?_ ?_; (focus (simp [*]; done))) | (with_reducible refine cond_f ?_ ?_; (focus (simp [*]; done))) | with_reducible refine then_n ?_ | with_reducible refine then_r ?_ | with_reducible refine then_e ?_ | with_reducible refine then_g ?_ | with_reducible refine inB_n ?_ | with_reducible refine inB_r ?_ | with_reducible refine inB_e ?_ | with_reducible refine inB_o rfl ?_ | with_reducible refine inB_g ?_ | with_reducible refine Leads.go (by assumption) ?_)
                simp [*]
            · clear en f2 f7 f8 f10 f11 f12
              rintro ⟨E, H, df⟩ ⟨en, edf, eH, ⟨f2, f8, f10, f11, f12, f18, -⟩⟩
              simp only at en edf eH f2 f8 f10 f11 f12 f18
              subst edf; subst eH
              by_cases h0 : 0 < both.length
              · have hn0 : (both = []) = False := by simp; intro q; subst q; simp at h0
                obtain ⟨kk, hk1, hk2, hk3⟩ : ∃ kk : Nat, (IntKind.i64.wrap (turn.tmod both.length + both.length)).tmod both.length = kk ∧ kk ≤ both.length ∧ ¬ (both.length < kk) := by
                  have m1 := Int.tmod_lt_of_pos turn (b := (both.length : Int)) (by omega)
                  have m2 : -(both.length : Int) < turn.tmod both.length := by
                    have := Int.lt_tmod_of_pos turn (b := (both.length : Int)) (by omega)
                    omega
                  have hw : IntKind.i64.wrap (turn.tmod both.length + both.length) = turn.tmod both.length + both.length := by
                    simp [IntKind.wrap, IntKind.bits, IntKind.signed]; omega
                  rw [hw]
                  have m3 := Int.tmod_lt_of_pos (turn.tmod both.length + both.length) (b := (both.length : Int)) (by omega)
                  have m4 := Int.tmod_nonneg (both.length : Int) (a := turn.tmod both.length + both.length) (by omega)
                  exact ⟨((turn.tmod both.length + both.length).tmod both.length).toNat, by omega, by omega, by omega⟩
                have hk4 : (kk : Int) ≤ (both.length : Int) := by omega
                have hLl : (both.map strD).length = both.length := by simp
                obtain ⟨L, hL⟩ : ∃ L, L = both.map strD := ⟨_, rfl⟩
                rw [← hL] at f10 hLl
                have hL' := Hold.mk hL
                have hn1 : (L = []) = False := by simp; intro q; subst q; simp at hLl; omega
                clear hL
                repeat (first | with_reducible refine seq_k fun K hK => ?_ | (with_reducible refine region_k fun K hK => ?_; simp [*]) | (with_reducible refine region_draw_k mixedO (by kernel_rfl) fun K hK => ?_; simp [*]) | with_reducible refine pwp_block ?_ | with_reducible refine pwp_skip ?_ | with_reducible refine pwp_ret ?_ | with_reducible refine pwp_exit ?_ | (with_reducible refine cond_t ?_ ?_; (focus (simp [*]; done))) | (with_reducible refine cond_f ?_ ?_; (focus (simp [*]; done))) | with_reducible refine then_n ?_ | with_reducible refine then_r ?_ | with_reducible refine then_e ?_ | with_reducible refine then_g ?_ | with_reducible refine inB_n ?_ | with_reducible refine inB_r ?_ | with_reducible refine inB_e ?_ | with_reducible refine inB_o rfl ?_ | with_reducible refine inB_g ?_ | with_reducible refine Leads.go (by assumption) ?_)
                obtain ⟨r3, H3, r4, H4, k3, k4, ho⟩ := own_two H (List.drop kk (List.take both.length L)) L (by simp; omega)
                have hD : List.drop kk (List.take both.length L) ++ L = ((both.drop kk ++ both).map strD) := by
                  rw [List.take_of_length_le (by omega), hL'.out]; simp
                rw [hD] at ho
                have hm3 : ∀ s ∈ both.drop kk ++ both, s ∈ both := fun s hs => (List.mem_append.1 hs).elim (fun q => List.mem_of_mem_drop q) id
                have ok3 : okAll (both.drop kk ++ both) = true := by
                  rw [okAll, List.all_eq_true] at oB ⊢
                  exact fun s hs => oB s (hm3 s hs)
                have hset : ∀ x, x ∈ (both.drop kk ++ both).map fcls ↔ x ∈ both.map fcls := fun x => by
                  simp only [List.mem_map]
                  exact ⟨fun ⟨s, h1, h2⟩ => ⟨s, hm3 s h1, h2⟩, fun ⟨s, h1, h2⟩ => ⟨s, List.mem_append_right _ h1, h2⟩⟩
                have eX := (hX2.out _ hset).out
                have eY := (hY2.out _ hset).out
                simp [k3, k4, en, f10]
                refine PCalls.mono (All_own (ss := both.drop kk ++ both) ho (fun s hs => by have := s3 s (hm3 s hs); omega) (by simp; omega)) ?_
                rintro _ _ ⟨hr, rfl⟩
                have q := AllRes.form hr
                clear hr
                obtain ⟨a5, b5, a6, b6, U3, V3, n3, q, q5, q6, r5, r6, hC⟩ := q
                clear r5 r6
                have hC' : n3 = 0 ∧ U3 = U2 ∧ V3 = V2 := by
                  rcases hC with hC | hC
                  · exact ⟨hC.2.1, hC.2.2.1.trans eX, hC.2.2.2.trans eY⟩
                  · rw [ok3] at hC; cases hC.1
                clear hC
                obtain ⟨e0, e5, e6⟩ := hC'
                rw [e0, e5, e6] at q
                rw [e5] at q5
                rw [e6] at q6
                clear eX eY hset hD ho ok3 hm3 k3 k4 hX2 hY2 e0 e5 e6
                subst q
                simp [*]
                repeat (first | with_reducible refine seq_k fun K hK => ?_ | (with_reducible refine region_k fun K hK => ?_; simp [*]) | (with_reducible refine region_draw_k mixedO (by kernel_rfl) fun K hK => ?_; simp [*]) | with_reducible refine pwp_block ?_ | with_reducible refine pwp_skip ?_ | with_reducible refine pwp_ret ?_ | with_reducible refine pwp_exit ?_ | (with_reducible refine cond_t ?_ ?_; (focus (simp [*]; done))) | (with_reducible refine cond_f ?_ ?_; (focus (simp [*]; done))) | with_reducible refine then_n ?_ | with_reducible refine then_r ?_ | with_reducible refine then_e ?_ | with_reducible refine then_g ?_ | with_reducible refine inB_n ?_ | with_reducible refine inB_r ?_ | with_reducible refine inB_e ?_ | with_reducible refine inB_o rfl ?_ | with_reducible refine inB_g ?_ | with_reducible refine Leads.go (by assumption) ?_)
                refine PCalls.mono (same_spec a5 b5 U2 c1 e1 U2 q5 he1 (by omega) (by omega) _) ?_
                rintro _ _ ⟨rfl, rfl⟩
                simp [*]
                refine PCalls.mono (same_spec a6 b6 V2 c2 e2 V2 q6 he2 (by omega) (by omega) _) ?_
                rintro _ _ ⟨rfl, rfl⟩
                simp [*]
                repeat (first | with_reducible refine seq_k fun K hK => ?_ | (with_reducible refine region_k fun K hK => ?_; simp [*]) | (with_reducible refine region_draw_k mixedO (by kernel_rfl) fun K hK => ?_; simp [*]) | with_reducible refine pwp_block ?_ | with_reducible refine pwp_skip ?_ | with_reducible refine pwp_ret ?_ | with_reducible refine pwp_exit ?_ | (with_reducible refine cond_t ?_ ?_; (focus (simp [*]; done))) | (with_reducible refine cond_f ?_ ?_; (focus (simp [*]; done))) | with_reducible refine then_n ?_ | with_reducible refine then_r ?_ | with_reducible refine then_e ?_ | with_reducible refine then_g ?_ | with_reducible refine inB_n ?_ | with_reducible refine inB_r ?_ | with_reducible refine inB_e ?_ | with_reducible refine inB_o rfl ?_ | with_reducible refine inB_g ?_ | with_reducible refine Leads.go (by assumption) ?_)
                refine PCalls.mono (All_noClass _) ?_
                rintro _ _ ⟨x, y, rfl⟩
                simp [*]
                repeat (first | with_reducible refine seq_k fun K hK => ?_ | (with_reducible refine region_k fun K hK => ?_; simp [*]) | (with_reducible refine region_draw_k mixedO (by kernel_rfl) fun K hK => ?_; simp [*]) | with_reducible refine pwp_block ?_ | with_reducible refine pwp_skip ?_ | with_reducible refine pwp_ret ?_ | with_reducible refine pwp_exit ?_ | (with_reducible refine cond_t ?_ ?_; (focus (simp [*]; done))) | (with_reducible refine cond_f ?_ ?_; (focus (simp [*]; done))) | with_reducible refine then_n ?_ | with_reducible refine then_r ?_ | with_reducible refine then_e ?_ | with_reducible refine then_g ?_ | with_reducible refine inB_n ?_ | with_reducible refine inB_r ?_ | with_reducible refine inB_e ?_ | with_reducible refine inB_o rfl ?_ | with_reducible refine inB_g ?_ | with_reducible refine Leads.go (by assumption) ?_)
                simp [*]
              · have hb0 : both.length = 0 := by omega
                repeat (first | with_reducible refine seq_k fun K hK => ?_ | (with_reducible refine region_k fun K hK => ?_; simp [*]) | (with_reducible refine region_draw_k mixedO (by kernel_rfl) fun K hK => ?_; simp [*]) | with_reducible refine pwp_block ?_ | with_reducible refine pwp_skip ?_ | with_reducible refine pwp_ret ?_ | with_reducible refine pwp_exit ?_ | (with_reducible refine cond_t ?_ ?_; (focus (simp [*]; done))) | (with_reducible refine cond_f ?_ ?_; (focus (simp [*]; done))) | with_reducible refine then_n ?_ | with_reducible refine then_r ?_ | with_reducible refine then_e ?_ | with_reducible refine then_g ?_ | with_reducible refine inB_n ?_ | with_reducible refine inB_r ?_ | with_reducible refine inB_e ?_ | with_reducible refine inB_o rfl ?_ | with_reducible refine inB_g ?_ | with_reducible refine Leads.go (by assumption) ?_)
                refine PCalls.mono (All_noClass _) ?_
                rintro _ _ ⟨x, y, rfl⟩
                simp [*]
                repeat (first | with_reducible refine seq_k fun K hK => ?_ | (with_reducible refine region_k fun K hK => ?_; simp [*]) | (with_reducible refine region_draw_k mixedO (by kernel_rfl) fun K hK => ?_; simp [*]) | with_reducible refine pwp_block ?_ | with_reducible refine pwp_skip ?_ | with_reducible refine pwp_ret ?_ | with_reducible refine pwp_exit ?_ | (with_reducible refine cond_t ?_ ?_; (focus (simp [*]; done))) | (with_reducible refine cond_f ?_ ?_; (focus (simp [*]; done))) | with_reducible refine then_n ?_ | with_reducible refine then_r ?_ | with_reducible refine then_e ?_ | with_reducible refine then_g ?_ | with_reducible refine inB_n ?_ | with_reducible refine inB_r ?_ | with_reducible refine inB_e ?_ | with_reducible refine inB_o rfl ?_ | with_reducible refine inB_g ?_ | with_reducible refine Leads.go (by assumption) ?_)
                simp [*]
        · simp [*]
          repeat (first | with_reducible refine seq_k fun K hK => ?_ | (with_reducible refine region_k fun K hK => ?_; simp [*]) | (with_reducible refine region_draw_k mixedO (by kernel_rfl) fun K hK => ?_; simp [*]) | with_reducible refine pwp_block ?_ | with_reducible refine pwp_skip ?_ | with_reducible refine pwp_ret ?_ | with_reducible refine pwp_exit ?_ | (with_reducible refine cond_t ?_ ?_; (focus (simp [*]; done))) | (with_reducible refine cond_f ?_ ?_; (focus (simp [*]; done))) | with_reducible refine then_n ?_ | with_reducible refine then_r ?_ | with_reducible refine then_e ?_ | with_reducible refine then_g ?_ | with_reducible refine inB_n ?_ | with_reducible refine inB_r ?_ | with_reducible refine inB_e ?_ | with_reducible refine inB_o rfl ?_ | with_reducible refine inB_g ?_ | with_reducible refine Leads.go (by assumption) ?_)
          refine PCalls.mono (All_person _) ?_
          rintro _ _ ⟨x, y, rfl⟩
          simp [*]
          repeat (first | with_reducible refine seq_k fun K hK => ?_ | (with_reducible refine region_k fun K hK => ?_; simp [*]) | (with_reducible refine region_draw_k mixedO (by kernel_rfl) fun K hK => ?_; simp [*]) | with_reducible refine pwp_block ?_ | with_reducible refine pwp_skip ?_ | with_reducible refine pwp_ret ?_ | with_reducible refine pwp_exit ?_ | (with_reducible refine cond_t ?_ ?_; (focus (simp [*]; done))) | (with_reducible refine cond_f ?_ ?_; (focus (simp [*]; done))) | with_reducible refine then_n ?_ | with_reducible refine then_r ?_ | with_reducible refine then_e ?_ | with_reducible refine then_g ?_ | with_reducible refine inB_n ?_ | with_reducible refine inB_r ?_ | with_reducible refine inB_e ?_ | with_reducible refine inB_o rfl ?_ | with_reducible refine inB_g ?_ | with_reducible refine Leads.go (by assumption) ?_)
          simp [*]
      · have oB : okAll both = false := by rw [hokA, oA]; rfl
        rcases hB with ⟨oB', _⟩ | ⟨_, rfl, rfl, rfl⟩
        · rw [oB] at oB'; cases oB'
        · simp [*]
          repeat (first | with_reducible refine seq_k fun K hK => ?_ | (with_reducible refine region_k fun K hK => ?_; simp [*]) | (with_reducible refine region_draw_k mixedO (by kernel_rfl) fun K hK => ?_; simp [*]) | with_reducible refine pwp_block ?_ | with_reducible refine pwp_skip ?_ | with_reducible refine pwp_ret ?_ | with_reducible refine pwp_exit ?_ | (with_reducible refine cond_t ?_ ?_; (focus (simp [*]; done))) | (with_reducible refine cond_f ?_ ?_; (focus (simp [*]; done))) | with_reducible refine then_n ?_ | with_reducible refine then_r ?_ | with_reducible refine then_e ?_ | with_reducible refine then_g ?_ | with_reducible refine inB_n ?_ | with_reducible refine inB_r ?_ | with_reducible refine inB_e ?_ | with_reducible refine inB_o rfl ?_ | with_reducible refine inB_g ?_ | with_reducible refine Leads.go (by assumption) ?_)
          refine PCalls.mono (All_person _) ?_
          rintro _ _ ⟨x, y, rfl⟩
          simp [*]
          repeat (first | with_reducible refine seq_k fun K hK => ?_ | (with_reducible refine region_k fun K hK => ?_; simp [*]) | (with_reducible refine region_draw_k mixedO (by kernel_rfl) fun K hK => ?_; simp [*]) | with_reducible refine pwp_block ?_ | with_reducible refine pwp_skip ?_ | with_reducible refine pwp_ret ?_ | with_reducible refine pwp_exit ?_ | (with_reducible refine cond_t ?_ ?_; (focus (simp [*]; done))) | (with_reducible refine cond_f ?_ ?_; (focus (simp [*]; done))) | with_reducible refine then_n ?_ | with_reducible refine then_r ?_ | with_reducible refine then_e ?_ | with_reducible refine then_g ?_ | with_reducible refine inB_n ?_ | with_reducible refine inB_r ?_ | with_reducible refine inB_e ?_ | with_reducible refine inB_o rfl ?_ | with_reducible refine inB_g ?_ | with_reducible refine Leads.go (by assumption) ?_)
          simp [*]
    · repeat (first | with_reducible refine seq_k fun K hK => ?_ | (with_reducible refine region_k fun K hK => ?_; simp [*]) | (with_reducible refine region_draw_k mixedO (by kernel_rfl) fun K hK => ?_; simp [*]) | with_reducible refine pwp_block ?_ | with_reducible refine pwp_skip ?_ | with_reducible refine pwp_ret ?_ | with_reducible refine pwp_exit ?_ | (with_reducible refine cond_t ?_ ?_; (focus (simp [*]; done))) | (with_reducible refine cond_f ?_ ?_; (focus (simp [*]; done))) | with_reducible refine then_n ?_ | with_reducible refine then_r ?_ | with_reducible refine then_e ?_ | with_reducible refine then_g ?_ | with_reducible refine inB_n ?_ | with_reducible refine inB_r ?_ | with_reducible refine inB_e ?_ | with_reducible refine inB_o rfl ?_ | with_reducible refine inB_g ?_ | with_reducible refine Leads.go (by assumption) ?_)
      refine PCalls.mono (few_spec g1 9 l (.inr rfl) _) ?_
      rintro _ _ ⟨rfl, rfl⟩
      simp [*]
      refine PCalls.mono (few_spec g2 9 more (.inr rfl) _) ?_
      rintro _ _ ⟨rfl, rfl⟩
      simp [*]
      repeat (first | with_reducible refine seq_k fun K hK => ?_ | (with_reducible refine region_k fun K hK => ?_; simp [*]) | (with_reducible refine region_draw_k mixedO (by kernel_rfl) fun K hK => ?_; simp [*]) | with_reducible refine pwp_block ?_ | with_reducible refine pwp_skip ?_ | with_reducible refine pwp_ret ?_ | with_reducible refine pwp_exit ?_ | (with_reducible refine cond_t ?_ ?_; (focus (simp [*]; done))) | (with_reducible refine cond_f ?_ ?_; (focus (simp [*]; done))) | with_reducible refine then_n ?_ | with_reducible refine then_r ?_ | with_reducible refine then_e ?_ | with_reducible refine then_g ?_ | with_reducible refine inB_n ?_ | with_reducible refine inB_r ?_ | with_reducible refine inB_e ?_ | with_reducible refine inB_o rfl ?_ | with_reducible refine inB_g ?_ | with_reducible refine Leads.go (by assumption) ?_)
      simp [*]
  · repeat (first | with_reducible refine seq_k fun K hK => ?_ | (with_reducible refine region_k fun K hK => ?_; simp [*]) | (with_reducible refine region_draw_k mixedO (by kernel_rfl) fun K hK => ?_; simp [*]) | with_reducible refine pwp_block ?_ | with_reducible refine pwp_skip ?_ | with_reducible refine pwp_ret ?_ | with_reducible refine pwp_exit ?_ | (with_reducible refine cond_t ?_ ?_; (focus (simp [*]; done))) | (with_reducible refine cond_f ?_ ?_; (focus (simp [*]; done))) | with_reducible refine then_n ?_ | with_reducible refine then_r ?_ | with_reducible refine then_e ?_ | with_reducible refine then_g ?_ | with_reducible refine inB_n ?_ | with_reducible refine inB_r ?_ | with_reducible refine inB_e ?_ | with_reducible refine inB_o rfl ?_ | with_reducible refine inB_g ?_ | with_reducible refine Leads.go (by assumption) ?_)
    refine PCalls.mono (few_spec g1 9 l (.inr rfl) _) ?_
    rintro _ _ ⟨rfl, rfl⟩
    simp [*]
    repeat (first | with_reducible refine seq_k fun K hK => ?_ | (with_reducible refine region_k fun K hK => ?_; simp [*]) | (with_reducible refine region_draw_k mixedO (by kernel_rfl) fun K hK => ?_; simp [*]) | with_reducible refine pwp_block ?_ | with_reducible refine pwp_skip ?_ | with_reducible refine pwp_ret ?_ | with_reducible refine pwp_exit ?_ | (with_reducible refine cond_t ?_ ?_; (focus (simp [*]; done))) | (with_reducible refine cond_f ?_ ?_; (focus (simp [*]; done))) | with_reducible refine then_n ?_ | with_reducible refine then_r ?_ | with_reducible refine then_e ?_ | with_reducible refine then_g ?_ | with_reducible refine inB_n ?_ | with_reducible refine inB_r ?_ | with_reducible refine inB_e ?_ | with_reducible refine inB_o rfl ?_ | with_reducible refine inB_g ?_ | with_reducible refine Leads.go (by assumption) ?_)
    simp [*]
end Go.Pv
